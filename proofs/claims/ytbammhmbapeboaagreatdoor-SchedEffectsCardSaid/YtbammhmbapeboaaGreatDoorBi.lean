/- Soundness of Ba, sixth part: calls. -/
import Derived.Test.YtbammhmbapeboaaGreatDoorBh
namespace Go.B
open Go Go.RowKit
set_option linter.unusedVariables false
set_option linter.unusedSectionVars false
set_option linter.unusedSimpArgs false

theorem okOps_mono {n m : Nat} (h : n ≤ m) {l : List Oper} (k : okOps n l = true) : okOps m l = true := by
  unfold okOps at *
  rw [List.all_eq_true] at *
  intro o ho
  have := k o ho
  cases hd : o.dst with
  | none => simp [hd]
  | some d =>
    simp [hd, Nat.blt_eq] at this ⊢
    omega

theorem okC_mono {n m : Nat} (h : n ≤ m) : ∀ c : Code, okC n c = true → okC m c = true := by
  intro c
  induction c with
  | region _ ops _ => exact okOps_mono h
  | seq a b iha ihb => intro k; simp only [okC, Bool.and_eq_true] at *; exact ⟨iha k.1, ihb k.2⟩
  | cond _ a b iha ihb => intro k; simp only [okC, Bool.and_eq_true] at *; exact ⟨iha k.1, ihb k.2⟩
  | block _ a ih => exact ih
  | loop a ih => exact ih
  | scope a ih => exact ih
  | rangeFunc _ ps a b iha ihb =>
    intro k
    simp only [okC, Bool.and_eq_true] at *
    refine ⟨⟨?_, iha k.1.2⟩, ihb k.2⟩
    rw [List.all_eq_true] at *
    intro d hd
    have := k.1.1 d hd
    simp [Nat.blt_eq] at this ⊢
    omega
  | _ => intro _; rfl

theorem find_number : ∀ (vs : List V) (k i : Nat), find i (number k vs) = if k ≤ i then (vs[i - k]?).getD .any else .any
  | [], k, i => by simp [number, find]
  | v :: vs, k, i => by
    simp only [number, find]
    by_cases h : k = i
    · subst h; simp
    · rw [beq_ne h, find_number vs (k + 1) i]
      by_cases h2 : k + 1 ≤ i
      · rw [if_pos h2, if_pos (by omega)]
        obtain ⟨j, rfl⟩ : ∃ j, i = k + 1 + j := ⟨i - (k + 1), by omega⟩
        rw [show k + 1 + j - (k + 1) = j by omega, show k + 1 + j - k = j + 1 by omega]
        simp
      · rw [if_neg h2, if_neg (by omega)]

theorem TR.args {ρ : Env} {vs : List V} {us : List Value} (h : Ds ρ vs us) (n : Nat) : TR ρ (number 0 vs) (us.toArray ++ Array.replicate n undef) := fun i => by
  rw [find_number, if_pos (Nat.zero_le _), Nat.sub_zero]
  cases e : vs[i]? with
  | none => exact D_any
  | some v =>
    obtain ⟨u, h1, h2⟩ := Ds_get h e
    have hi : i < us.length := (List.getElem?_eq_some_iff.mp h1).1
    have : (us.toArray ++ Array.replicate n undef).getD i undef = u := by
      rw [Array.getD_eq_getD_getElem?, Array.getElem?_append_left (by simpa using hi)]
      simp [h1]
    rw [this]; exact h2

theorem TR.zip {ρ : Env} : ∀ (ps : List Tmp) (args : List V) (us : List Value) (ts : List (Nat × V)) (tmps : Array Value), TR ρ ts tmps → Ds ρ args us → (ps.all fun d => Nat.blt d tmps.size) = true →
    TR ρ (zipPut ps args ts) ((ps.zip us).foldl (fun tmps (t, a) => tmps.setIfInBounds t a) tmps)
  | [], args, us, ts, tmps, T, _, _ => by simpa [zipPut] using T
  | p :: ps, [], us, ts, tmps, T, h, _ => by
    rw [Ds_nil] at h; subst h
    simpa [zipPut] using T
  | p :: ps, v :: vs, us, ts, tmps, T, h, hp => by
    rw [Ds_cons] at h
    obtain ⟨u, us', rfl, h1, h2⟩ := h
    simp only [List.all_cons, Bool.and_eq_true] at hp
    simp only [zipPut, List.zip_cons_cons, List.foldl_cons]
    exact TR.zip ps vs us' _ _ (T.ins (by simpa [Nat.blt_eq] using hp.1) h1) h2 (by simpa using hp.2)

theorem zip_size (l : List (Tmp × Value)) : ∀ tmps : Array Value, (l.foldl (fun tmps (t, a) => tmps.setIfInBounds t a) tmps).size = tmps.size := by
  induction l with
  | nil => intro _; rfl
  | cons x l ih => intro tmps; rw [List.foldl_cons, ih]; simp

theorem leave_sound {gs : List (Nat × CF)} {n : Nat} {hp : List Blk} {v : V} {K : V → List Blk → Prop} (h : leave n hp v K) {ρ ρ' : Env} {w w' : World} {u : Value} (hn : ρ.l.length = n)
    (hd : D ρ' v u) (R : Rel gs ρ' hp w') (G : Gr ρ w ρ' w') : CP gs K ρ w (.returned u) w' := by
  unfold leave at h
  split at h
  · exact ⟨v, u, _, ρ', rfl, h, hd, R, G⟩
  split at h
  · rename_i hb
    simp only [Bool.and_eq_true] at hb
    refine ⟨v, u, _, ρ'.take n, rfl, h, D_take hb.1 hd, R.take n hb.2, ?_⟩
    exact G.cut (by omega)
  · exact ⟨v, u, _, ρ', rfl, h, hd, R, G⟩

theorem shutK_of {X : Prop} : ∀ {ms : List Nat} {hp : List Blk}, shutK X hp ms → shutOk hp ms ∧ X
  | [], hp, h => ⟨trivial, h⟩
  | d :: ms, hp, h => by
    unfold shutK at h
    split at h
    · rename_i hd
      obtain ⟨h1, h2⟩ := shutK_of h
      refine ⟨⟨?_, h1⟩, h2⟩
      rw [hd]
      trivial
    · exact h.elim

theorem leaves_sound {P : Program} {gs : List (Nat × CF)} {fn : Func} {tmps : Array Value} {RR' : Ending → World → Prop} {ρ0 : Env} {w0 : World} {H : Nat} (hM0 : ∀ r o, ρ0.M r = some o → r < w0.heap.size) : ∀ (ds : List Deferred) (ms : List Nat) (hp : List Blk) (ρ : Env) (w : World),
    MR w0.heap.size H ρ ms ds → shutOk hp ms → Rel gs ρ hp w → Gr ρ0 w0 ρ w → (∀ w2 ρ2, ρ.leC ρ2 → Rel gs ρ2 (deadAll ms hp) w2 → Gr ρ0 w0 ρ2 w2 → ∃ v, (Go.results fn tmps).run P w2 = .ok v w2 ∧ RR' (.returned v) w2) → LeavesInM Fence.wide 0 P fn tmps RR' ds .returning w
  | [], ms, hp, ρ, w, M, _, R, G, h => by
    have : ms = [] := M
    subst this
    exact h w ρ (Env.le_refl _).toC R G
  | d :: ds, ms, hp, ρ, w, M, S, R, G, h => by
    obtain ⟨r, rfl, h2, h3, h4, h5⟩ := M
    rcases h5 with ⟨m, ms', rfl, h6, h7⟩ | ⟨h6, h7⟩
    · obtain ⟨s1, s2⟩ := S
      have hd : hp[m]? = some .dfr := by
        split at s1
        · assumption
        · exact s1.elim
      obtain ⟨o, q1, q2⟩ := R.get hd h6 id
      have q2 : o = .deferred (some []) := q2
      subst q2
      obtain ⟨R', G'⟩ := R.put hd id rfl h6 (.deferred none) .dead rfl trivial
      refine ⟨by simp, .inl ⟨r, _, rfl, run_takeDeferred q1, ?_⟩⟩
      exact leaves_sound hM0 ds ms' (hp.set m .dead) ρ _ h7 s2 R' (G.trans G') h
    · obtain ⟨q1, _⟩ := R.im r _ h6
      refine ⟨by simp, .inl ⟨r, _, rfl, run_takeDeferred q1, ?_⟩⟩
      have R' := R.taken h6
      have hne : ∀ x, x ≠ r → (if x = r then none else ρ.M x) = ρ.M x := fun x hx => if_neg hx
      have G' : Gr ρ0 w0 ⟨ρ.l, fun x => if x = r then none else ρ.M x⟩ { w with heap := w.heap.setIfInBounds r (.deferred none) } := by
        refine ⟨⟨G.pre.1, fun x o hx => ?_⟩, G.new, fun x o hx => ?_, G.os, G.tape, G.output, by simpa using G.size, fun b hb hn => ?_⟩
        · show (if x = r then none else ρ.M x) = some o
          rw [hne x (by have := hM0 x o hx; omega)]
          exact G.pre.2 _ _ hx
        · have hx : (if x = r then none else ρ.M x) = some o := hx
          by_cases e : x = r
          · rw [if_pos e] at hx; cases hx
          · rw [if_neg e] at hx; exact G.newM x o hx
        · show (w.heap.setIfInBounds r (.deferred none))[b]? = _
          rw [Array.getElem?_setIfInBounds_ne (by omega)]
          exact G.old b hb hn
      refine leaves_sound hM0 ds ms hp _ _ (h7.drop (ρ := ρ) (ρ' := ⟨ρ.l, fun x => if x = r then none else ρ.M x⟩) rfl hne h4) S R' G' (fun w2 ρ2 L2 R2 G2 => h w2 ρ2 ?_ R2 G2)
      refine ⟨L2.1, fun x us T fr hx => L2.2 _ _ _ _ ?_⟩
      show (if x = r then none else ρ.M x) = _
      rw [hne x (by rintro rfl; rw [h6] at hx; cases hx)]
      exact hx

def resF (tmps : Array Value) : ResultVar → Sem Value
  | .tmp t => pure (tmps.getD t undef)
  | .cell a t => do loadVar t (← asAddr (tmps.getD a undef))

theorem results_eq (fn : Func) (tmps : Array Value) : Go.results fn tmps = (do let vs ← fn.results.mapM (resF tmps); pure (if h : vs.size = 1 then vs[0] else .tuple vs)) := rfl

section
variable {P : Program} {c : Cx} (hT : TyOk P c) (hE : EqOk P c)
include hT

theorem result_sound {s : S} {r : ResultVar} {K : V → Prop} (h : result c s r K) {ρ : Env} {w : World} {tmps : Array Value} (R : Rel c.gs ρ s.hp w) (T : TR ρ s.ts tmps) :
    ∃ v u, K v ∧ D ρ v u ∧ (resF tmps r).run P w = .ok u w := by
  unfold result at h
  split at h
  · exact ⟨_, _, h, T _, rfl⟩
  · rename_i a t
    obtain ⟨e, he, h⟩ := tyOf_of h
    have hx := T a
    split at h
    · rename_i k off hk
      rw [hk] at hx
      simp only [D] at hx
      obtain ⟨rr, hr, hu⟩ := hx
      split at h
      · rename_i vs hvs
        split at h
        · rename_i v hv
          obtain ⟨ob, h1, us, T', rfl, h2⟩ := R.get (cellsAt_spec hvs) hr id
          obtain ⟨u, h3, h4⟩ := loadAt_sound (P := P) (hT _ _ he) h2 hv h1
          exact ⟨v, u, h, h3, by simp [resF, hu, asAddr, h4 w (fun _ _ => rfl)]⟩
        · exact h.elim
      · exact h.elim
    · exact h.elim

theorem resultsOf_sound {s : S} {ρ : Env} {w : World} {tmps : Array Value} (R : Rel c.gs ρ s.hp w) (T : TR ρ s.ts tmps) : ∀ (l : List ResultVar) (K : List V → Prop), resultsOf c s l K →
    ∃ vs us, K vs ∧ Ds ρ vs us ∧ (l.mapM (resF tmps)).run P w = .ok us w
  | [], K, h => ⟨[], [], h, Ds_nil.mpr rfl, rfl⟩
  | r :: l, K, h => by
    obtain ⟨v, u, h1, h2, h3⟩ := result_sound hT h R T
    obtain ⟨vs, us, k1, k2, k3⟩ := resultsOf_sound R T l _ h1
    refine ⟨v :: vs, u :: us, k1, Ds_cons.mpr ⟨u, us, rfl, h2, k2⟩, ?_⟩
    rw [List.mapM_cons, Sem.run_bind, h3, Result.andThen_ok, Sem.run_bind, k3]
    rfl

theorem results_sound {fn : Func} {s : S} {ρ : Env} {w : World} {tmps : Array Value} (R : Rel c.gs ρ s.hp w) (T : TR ρ s.ts tmps) (K : List V → Prop) (h : resultsOf c s fn.results.toList K) :
    ∃ vs u, K vs ∧ D ρ (tupOf vs) u ∧ (Go.results fn tmps).run P w = .ok u w := by
  obtain ⟨vs, us, h1, h2, h3⟩ := resultsOf_sound hT R T _ _ h
  refine ⟨vs, if h : us.toArray.size = 1 then us.toArray[0] else .tuple us.toArray, h1, ?_, ?_⟩
  · unfold tupOf
    split
    · rw [Ds_cons] at h2
      obtain ⟨u, us', rfl, h4, h5⟩ := h2
      rw [Ds_nil] at h5; subst h5
      exact h4
    · rename_i vs' hne
      have hl := Ds_len h2
      have : ¬ us.toArray.size = 1 := by
        intro e
        simp at e
        rw [e] at hl
        match vs, hl with
        | [v], _ => exact hne v rfl
      rw [dif_neg this]
      simp only [D]
      exact ⟨_, rfl, h2⟩
  · rw [results_eq, Array.mapM_eq_mapM_toList]
    simp only [Sem.run_bind, Sem.run_map]
    rw [h3]
    rfl

include hE

/-- what is owed of loops is shown -/
def LpOk (c : Cx) (ok : FuncId → Nat → Nat → Bool) (lp : Nat → FuncId → Nat → Nat → Lp) : Prop :=
  ∀ n f, LoopsOk c f (acall c ok lp n) (ok f) (lp n f)

theorem acall_sound (hF : FnsOk P c) (hm : P.follows .mixedOrders = true) (ok : FuncId → Nat → Nat → Bool) (lp : Nat → FuncId → Nat → Nat → Lp) (hL : LpOk c ok lp) : ∀ n, CvOk P c.gs (acall c ok lp n)
  | 0 => fun v args hp K h => h.elim
  | n + 1 => by
    intro v args hp K h ρ w u us R hd hds
    have ih := acall_sound hF hm ok lp hL n
    unfold acall at h
    split at h
    · -- a function
      rename_i f a b
      simp only [D] at hd
      obtain ⟨as, bs, rfl, h1, h2⟩ := hd
      refine .inl ⟨f, as, bs, rfl, ?_⟩
      have hall : Ds ρ (a ++ args ++ b) (as.toList ++ us ++ bs.toList) := Ds_append (Ds_append h1 hds) h2
      have harr : as ++ us.toArray ++ bs = (as.toList ++ us ++ bs.toList).toArray := by simp
      rw [harr]
      generalize as.toList ++ us ++ bs.toList = us' at *
      generalize a ++ args ++ b = args' at *
      split at h
      · rename_i A B RR hg
        refine fx_call hF (hF _ _ hg) R hall ?_
        split at h
        · rename_i hf
          split at h
          · rename_i x d hx
            obtain ⟨rfl, y, q1, q2⟩ := req_of h
            exact .inl ⟨hf, x, y, hx, q1, q2⟩
          · exact h.elim
        · split at h
          · rename_i vs hp2 d' hi
            split at h
            · rename_i x d hx
              obtain ⟨hdd, y, q1, q2⟩ := req_of h
              simp only [Bool.and_eq_true] at hdd
              obtain ⟨rfl, rfl⟩ := hdd
              exact .inr ⟨vs, hp2, x, y, hi, hx, q1, q2⟩
            · exact h.elim
          · exact h.elim
      · rename_i A B g pre hg
        refine fx_call hF (hF _ _ hg) R hall ?_
        split at h
        · rename_i hf
          split at h
          · rename_i x d hx
            obtain ⟨hdd, q2⟩ := req_of h
            simp only [Bool.and_eq_true] at hdd
            obtain ⟨rfl, hp⟩ := hdd
            exact .inl ⟨hf, x, _, hx, ⟨hp, rfl⟩, q2⟩
          · exact h.elim
        · split at h
          · rename_i vs hp2 d' hi
            split at h
            · rename_i x d hx
              obtain ⟨hdd, q2⟩ := req_of h
              simp only [Bool.and_eq_true] at hdd
              obtain ⟨⟨rfl, rfl⟩, hp⟩ := hdd
              exact .inr ⟨vs, hp2, x, _, hi, hx, ⟨hp, rfl⟩, q2⟩
            · exact h.elim
          · exact h.elim
      · rename_i g hg
        obtain ⟨hen, hp⟩ := hF _ _ hg
        exact ⟨hen, hp args' _ K h ρ w us' R hall⟩
      · rename_i fn hg
        obtain ⟨hf, hname, hok⟩ := hF _ _ hg
        split at h
        · rename_i code hb
          refine ⟨?_, ?_⟩
          · intro args w
            have h1 : fn.name ≠ "runtime.NumGoroutine" := by simpa using hname
            simp [callFunc, hf, h1, hb, mark]
          · refine callsIn_of_wp_marks hf hb trivial ?_
            have hsz : (us'.toArray ++ Array.replicate (fn.ntmps - us'.toArray.size) undef).size ≥ fn.ntmps := by simp; omega
            have key := acode_sound hT hE hF hm ih f (ok f) (lp n f) (hL n f) code none none (retK c hp.length fn K) ⟨number 0 args', hp, []⟩ { tmps := us'.toArray ++ Array.replicate (fn.ntmps - us'.toArray.size) undef, defers := [] } w ρ h
              (okC_mono hsz code (hok code hb)) R (TR.args hall _) rfl (Nat.le_refl _) trivial
            refine wpIn_mono key ?_
            rintro e a' w' ⟨q, s', ρ', rfl, k1, k2, k3, k4, k5, k6⟩
            have fin : shutK (resultsOf c ⟨s'.ts, deadAll s'.marks s'.hp, []⟩ fn.results.toList fun vs => leave hp.length (deadAll s'.marks s'.hp) (tupOf vs) K) s'.hp s'.marks →
                LeavesInM Fence.wide 0 P fn a'.tmps (CP c.gs K ρ w) a'.defers .returning w' := by
              intro j
              obtain ⟨j1, j2⟩ := shutK_of j
              refine leaves_sound (fun r o hr => some_lt (R.im r o hr).1) a'.defers s'.marks s'.hp ρ' w' k4 j1 k2 k6 ?_
              intro w2 ρ2 L2 R2 G2
              obtain ⟨vs, u, l1, l2, l3⟩ := results_sound hT (fn := fn) (s := ⟨s'.ts, deadAll s'.marks s'.hp, []⟩) R2 (k3.monoC L2) _ j2
              exact ⟨u, l3, leave_sound l1 R.len l2 R2 G2⟩
            cases q with
            | normal => exact fin k1
            | ret => exact fin k1
            | exit i => exact k1.elim
        · exact h.elim
      · exact h.elim
    · -- a round
      rename_i k
      simp only [D] at hd
      obtain ⟨rr, hkr, rfl⟩ := hd
      split at h
      · rename_i r hk
        obtain ⟨hlen, h⟩ := req_of h
        obtain ⟨o, h1, RL, rfl, hst, hpd, hps, has, hbd, hT1, hd1, ho1, ho2, ho3⟩ := R.get hk hkr id
        have hlen := Nat.eq_of_beq_eq_true hlen
        have hul := Ds_len hds
        refine .inr ⟨rr, RL, rfl, h1, by rw [hul, ← hlen, ← hps]; simp, ?_⟩
        refine roundIn_of_wpIn trivial ?_
        have hfold : (RL.params.zip us.toArray).foldl (fun tmps (t, a) => tmps.setIfInBounds t a) RL.tmps = (r.ps.zip us).foldl (fun tmps (t, a) => tmps.setIfInBounds t a) RL.tmps := by
          rw [← Array.foldl_toList, Array.toList_zip, hps]
        rw [hfold, has, hbd]
        have hs0 := zip_size (r.ps.zip us) RL.tmps
        generalize hA : (r.ps.zip us).foldl (fun tmps (t, a) => tmps.setIfInBounds t a) RL.tmps = A at *
        have T0 : TR ρ (zipPut r.ps args r.ts) A := by rw [← hA]; exact TR.zip r.ps args us r.ts RL.tmps hT1 hds ho3
        have key := acode_sound hT hE hF hm ih r.f (ok r.f) (lp n r.f) (hL n r.f) r.assign (some k) (some rr) _ ⟨zipPut r.ps args r.ts, hp, []⟩ { tmps := A, defers := [] } w ρ h (by show okC A.size _ = true; rw [hs0]; exact ho1) R T0 rfl (Nat.le_refl _) hkr
        refine wpIn_mono key ?_
        rintro e a' w' ⟨q, s', ρ', rfl, k1, k2, k3, k4, k5, k6⟩
        cases q with
        | ret => exact k1.elim
        | exit i => exact k1.elim
        | normal =>
          unfold beginK at k1
          simp only at k1
          split at k1
          · rename_i r2 hk2
            have hkr2 := pre_get k6.pre hkr
            obtain ⟨o2, p1, RL2, rfl, p2, p3, p4, p5, p6, p7, p8, p9, p10, p11⟩ := k2.get hk2 hkr2 id
            obtain ⟨R3, G3⟩ := k2.put hk2 id rfl hkr2 (.loop { RL2 with state := .busy }) (.loop .busy none r2) rfl ⟨_, rfl, rfl, p3, p4, p5, p6, p7, p8, p9, p10, p11⟩
            refine ⟨_, run_beginRound p1 p2, ?_⟩
            have hbody : okC a'.tmps.size r.body = true := by
              rw [k5]; show okC A.size _ = true; rw [hs0]; exact ho2
            have key2 := acode_sound hT hE hF hm ih r.f (ok r.f) (lp n r.f) (hL n r.f) r.body (some k) (some rr) _ ⟨s'.ts, s'.hp.set k (.loop .busy none r2), s'.marks⟩ a' _ ρ' k1 hbody R3 k3 (k4.mono (Env.le_refl _) G3.size) (Nat.le_trans k6.size G3.size) hkr2
            refine wpIn_mono key2 ?_
            rintro e2 a2 w2 ⟨q2, s2, ρ2, rfl, m1, m2, m3, m4, m5, m6⟩
            unfold busyK at m1
            split at m1
            · rename_i r3 hk3
              have hkr3 := pre_get m6.pre hkr2
              obtain ⟨o3, t1, RL3, rfl, t2, t3, t4, t5, t6, t7, t8, t9, t10, t11⟩ := m2.get hk3 hkr3 id
              have G0 := (k6.trans G3).trans m6
              cases q2 with
              | normal =>
                obtain ⟨R4, G4⟩ := m2.put hk3 id rfl hkr3 (.loop { RL3 with state := .ready, pending := none }) (.loop .ready none r3) rfl ⟨_, rfl, rfl, rfl, t4, t5, t6, t7, t8, t9, t10, t11⟩
                exact ⟨_, _, run_endRound none t1, leave_sound m1 R.len (by simp [D]) R4 (G0.trans G4)⟩
              | ret =>
                obtain ⟨R4, G4⟩ := m2.put hk3 id rfl hkr3 (.loop { RL3 with state := .done, pending := some .ret }) (.loop .done (some .ret) r3) rfl ⟨_, rfl, rfl, rfl, t4, t5, t6, t7, t8, t9, t10, t11⟩
                exact ⟨_, _, run_endRound (some .ret) t1, leave_sound m1 R.len (by simp [D]) R4 (G0.trans G4)⟩
              | exit i =>
                obtain ⟨R4, G4⟩ := m2.put hk3 id rfl hkr3 (.loop { RL3 with state := .done, pending := some (.exit i) }) (.loop .done (some (.exit i)) r3) rfl ⟨_, rfl, rfl, rfl, t4, t5, t6, t7, t8, t9, t10, t11⟩
                exact ⟨_, _, run_endRound (some (.exit i)) t1, leave_sound m1 R.len (by simp [D]) R4 (G0.trans G4)⟩
            · exact m1.elim
          · exact k1.elim
      · exact h.elim
    · exact h.elim

omit hT hE in

theorem Rel.nil {gs : List (Nat × CF)} {w : World} {M : Nat → Option Obj} (h : Gl gs w) (hM : ∀ r o, M r = some o → w.heap[r]? = some o) : Rel gs ⟨[], M⟩ [] w :=
  ⟨rfl, fun i j r bi bj h => (by simp at h), fun k b r h => (by simp at h), fun g cf hg => ⟨fun i b h => (by simp at h), h g cf hg⟩, fun r o hr => ⟨hM r o hr, fun i b h => (by simp at h)⟩, fun k r b h => (by simp at h)⟩
end
end Go.B
