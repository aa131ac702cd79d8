/- Soundness of AbD, fifth part: code, calls, rounds. -/
import Derived.Test.YtkhmkenankdakabDoorAbK
namespace Go.Ab
open Go
set_option linter.unusedVariables false
set_option linter.unusedSimpArgs false

theorem Post.trans {gs : List (Nat × (IntKind × List Int))} {K : Ret → S → Prop} {ρ ρ1 : List Nat} {w w1 : World} {sz : Nat} {e : Exit} {a' : Act} {w' : World} (G : Gr ρ w ρ1 w1) (h : Post gs K ρ1 w1 sz e a' w') : Post gs K ρ w sz e a' w' := by
  obtain ⟨q, s', ρ', h1, h2, h3, h4, h5, h6, h7⟩ := h
  exact ⟨q, s', ρ', h1, h2, h3, h4, h5, h6, G.trans h7⟩

theorem blk_same {K : Ret → S → Prop} {i : Nat} {s : S} (h : blkK K i (.exit i) s) : K .normal s := by
  have h' : (match Nat.beq i i with | true => K .normal s | false => K (.exit i) s) := h
  rwa [Nat.beq_refl] at h'

theorem blk_other {K : Ret → S → Prop} {i id : Nat} {s : S} (hi : i ≠ id) (h : blkK K id (.exit i) s) : K (.exit i) s := by
  have h' : (match Nat.beq i id with | true => K .normal s | false => K (.exit i) s) := h
  rwa [beq_ne hi] at h'

theorem getD_lt {α : Type} {l : List α} {i : Nat} {x : α} (h : l[i]? = some x) : i < l.length := (List.getElem?_eq_some_iff.mp h).1

section
variable {P : Program} {c : Cx} (hT : TyOk P c) (hE : EqOk P c)
include hT hE

omit hT hE in

/-- what follows a range over a function: the pending jump -/
theorem after_loop {K : Ret → S → Prop} {ts : List (Nat × V)} {ms : List Nat} {hp : List Blk} {k r : Nat} {rr : Option Nat} {ρ ρ' : List Nat} {w w' : World} {a' : Act} {sz : Nat}
    (h : afterK K ts ms k hp) (hr : ρ'[k]? = some r) (R : Rel c.gs ρ' hp w') (T : TR ρ' ts a'.tmps) (M : MR ρ' ms a'.defers) (hsz : a'.tmps.size = sz) (G : Gr ρ w ρ' w') :
    ∃ jump w₄, (Instr.endLoop r).run P w' = .ok jump w₄ ∧
      (match jump with
       | none => Post c.gs K ρ w sz .normal a' w₄
       | some cd => cd.wpIn (FR rr) 0 P (Post c.gs K ρ w sz) a' w₄) := by
  unfold afterK at h
  split at h
  · rename_i st pend L hk
    obtain ⟨o, h1, h2⟩ := R.blk _ _ _ hk hr
    obtain ⟨RL, rfl, hst, hpend, _⟩ := h2
    have hnb : RL.state ≠ .busy := by rw [hst]; intro e; subst e; exact h
    have hrun := run_endLoop (P := P) h1 hnb
    obtain ⟨R', G'⟩ := R.put hr (.loop { RL with state := .exhausted }) .dead trivial
    obtain ⟨w4, hw4⟩ : ∃ w4, w'.putObj r (.loop { RL with state := .exhausted }) = w4 := ⟨_, rfl⟩
    have R'' : Rel c.gs ρ' (hp.set k .dead) w4 := hw4 ▸ R'
    have G'' : Gr ρ' w' ρ' w4 := hw4 ▸ G'
    rw [hw4] at hrun
    rw [hpend] at hrun
    refine ⟨_, _, hrun, ?_⟩
    have fin : ∀ q, K q ⟨ts, hp.set k .dead, ms⟩ → Post c.gs K ρ w sz (Ex q) a' w4 := fun q hq =>
      ⟨q, _, ρ', rfl, hq, R'', T, M, hsz, G.trans G''⟩
    have h' : pendK K ⟨ts, hp.set k .dead, ms⟩ pend := by cases st <;> first | exact h | exact h.elim
    clear hrun hpend hk h
    cases pend with
    | none => exact fin .normal h'
    | some cd =>
      cases cd <;> first
        | exact h'.elim
        | exact wpIn_ret (fin .ret h')
        | exact wpIn_exit (fin (.exit _) h')
  · exact h.elim

theorem acode_sound (hF : FnsOk P c) (hm : P.follows .mixedOrders = true) {cv : CV} (hcv : CvOk P c.gs cv) (ok : Nat → Bool) (lp : Nat → Nat) : ∀ (code : Code) (round r : Option Nat) (K : Ret → S → Prop) (s : S) (a : Act) (w : World) (ρ : List Nat),
    acode c cv ok lp round code K s → okC a.tmps.size code = true → Rel c.gs ρ s.hp w → TR ρ s.ts a.tmps → MR ρ s.marks a.defers → RR ρ round r →
    code.wpIn (FR r) 0 P (Post c.gs K ρ w a.tmps.size) a w := by
  intro code
  induction code with
  | skip => exact fun round r K s a w ρ h _ R T M _ => wpIn_skip ⟨.normal, s, ρ, rfl, h, R, T, M, rfl, Gr.refl _ _⟩
  | label l => exact fun round r K s a w ρ h _ R T M _ => wpIn_label ⟨.normal, s, ρ, rfl, h, R, T, M, rfl, Gr.refl _ _⟩
  | ret => exact fun round r K s a w ρ h _ R T M _ => wpIn_ret ⟨.ret, s, ρ, rfl, h, R, T, M, rfl, Gr.refl _ _⟩
  | exit id => exact fun round r K s a w ρ h _ R T M _ => wpIn_exit ⟨.exit id, s, ρ, rfl, h, R, T, M, rfl, Gr.refl _ _⟩
  | goto l => exact fun round r K s a w ρ h => h.elim
  | refuse y => exact fun round r K s a w ρ h => h.elim
  | region id ops draw =>
    intro round r K s a w ρ h hok R T M hr
    cases draw with
    | true =>
      cases round with
      | some _ => exact h.elim
      | none =>
        cases r with
        | some _ => exact hr.elim
        | none =>
          refine wpIn_wide.2 ?_
          exact adraw_sound hT hE hF hm hcv h hok R T (fun s' ρ' a' w' k1 k2 k3 k4 k5 k6 k7 => ⟨.normal, keep ok s', ρ', rfl, k1, k2, k3.filter ok, by
            show MR ρ' s'.marks a'.defers
            rw [k4, k5]; exact M.mono k7.pre, k6, k7⟩)
    | false =>
      refine wpIn_region ?_
      have := aops_sound hT hE hcv (ops := ops) r ops.toList 0 s a w ρ (fun s => K .normal (keep ok s)) (Post c.gs K ρ w a.tmps.size) (fun j _ => by simp) hok h R T
        (fun s' ρ' a' w' k1 k2 k3 k4 k5 k6 k7 => ⟨.normal, keep ok s', ρ', rfl, k1, k2, k3.filter ok, by
          show MR ρ' s'.marks a'.defers
          rw [k4, k5]; exact M.mono k7.pre, k6, k7⟩)
      rw [List.range_eq_range']
      simpa using this
  | seq x y ihx ihy =>
    intro round r K s a w ρ h hok R T M hr
    simp only [okC, Bool.and_eq_true] at hok
    refine wpIn_seq (wpIn_mono (ihx round r _ s a w ρ h hok.1 R T M hr) ?_)
    rintro e a' w' ⟨q, s', ρ', rfl, k1, k2, k3, k4, k5, k6⟩
    cases q with
    | normal =>
      refine wpIn_mono (ihy round r K s' a' w' ρ' k1 (by rw [k5]; exact hok.2) k2 k3 k4 (hr.mono k6.pre)) ?_
      intro e a2 w2 h2
      rw [k5] at h2
      exact h2.trans k6
    | ret => exact ⟨.ret, s', ρ', rfl, k1, k2, k3, k4, k5, k6⟩
    | exit i => exact ⟨.exit i, s', ρ', rfl, k1, k2, k3, k4, k5, k6⟩
  | cond x y z ihy ihz =>
    intro round r K s a w ρ h hok R T M hr
    simp only [okC, Bool.and_eq_true] at hok
    unfold acode at h
    split at h
    · rename_i t ht
      have hx := get_sound (s := s) (a := a) T x
      rw [ht] at hx
      simp only [D] at hx
      cases t with
      | true => exact wpIn_cond_true hx (ihy round r K s a w ρ h hok.1 R T M hr)
      | false => exact wpIn_cond_false hx (ihz round r K s a w ρ h hok.2 R T M hr)
    · exact h.elim
  | block id x ih =>
    intro round r K s a w ρ h hok R T M hr
    refine wpIn_block (wpIn_mono (ih round r _ s a w ρ h hok R T M hr) ?_)
    rintro e a' w' ⟨q, s', ρ', rfl, k1, k2, k3, k4, k5, k6⟩
    cases q with
    | normal => exact ⟨.normal, s', ρ', rfl, k1, k2, k3, k4, k5, k6⟩
    | ret => exact ⟨.ret, s', ρ', rfl, k1, k2, k3, k4, k5, k6⟩
    | exit i =>
      simp only [Ex, Exit.inBlock]
      by_cases hi : i = id
      · subst hi
        have k1 := blk_same k1
        rw [if_pos rfl]
        exact ⟨.normal, s', ρ', rfl, k1, k2, k3, k4, k5, k6⟩
      · have k1 := blk_other hi k1
        rw [if_neg hi]
        exact ⟨.exit i, s', ρ', rfl, k1, k2, k3, k4, k5, k6⟩
  | scope x ih =>
    intro round r K s a w ρ h hok R T M hr
    refine wpIn_scope ?_ (ih round r K s a w ρ h hok R T M hr)
    rintro l a' w' ⟨q, _, _, hq, _⟩
    cases q <;> cases hq
  | loop x ih =>
    intro round r K s a w ρ h hok R T M hr
    change (match lp (firstOf x) with
      | 0 => ∃ k, iter s.hp.length (acode c cv ok lp round x) K k s
      | n + 1 => iter0 (acode c cv ok lp round x) K (n + 1) s) at h
    split at h
    · obtain ⟨k, h⟩ := h
      refine wpIn_loop_count (fun k a' w' => ∃ s' ρ', iter s.hp.length (acode c cv ok lp round x) K k s' ∧ Rel c.gs ρ' s'.hp w' ∧ TR ρ' s'.ts a'.tmps ∧ MR ρ' s'.marks a'.defers ∧ a'.tmps.size = a.tmps.size ∧ Gr ρ w ρ' w')
        ⟨k, s, ρ, h, R, T, M, rfl, Gr.refl _ _⟩ ?_
      rintro k a1 w1 ⟨s1, ρ1, hi, R1, T1, M1, hsz, G1⟩
      cases k with
      | zero => exact hi.elim
      | succ k =>
        obtain ⟨s2, hw, hc⟩ := hi
        obtain ⟨ρ2, R2, T2, M2, G2⟩ := weak_sound hw R1 T1 M1 R.len G1
        refine wpIn_mono (ih round r _ s2 a1 w1 ρ2 hc (by rw [hsz]; exact hok) R2 T2 M2 (hr.mono G2.pre)) ?_
        rintro e a' w' ⟨q, s', ρ', rfl, k1, k2, k3, k4, k5, k6⟩
        cases q with
        | normal => exact ⟨k, Nat.lt_succ_self k, s', ρ', k1, k2, k3, k4, k5.trans hsz, G2.trans k6⟩
        | ret => exact ⟨.ret, s', ρ', rfl, k1, k2, k3, k4, k5.trans hsz, G2.trans k6⟩
        | exit i => exact ⟨.exit i, s', ρ', rfl, k1, k2, k3, k4, k5.trans hsz, G2.trans k6⟩
    · refine wpIn_loop_count (fun k a' w' => ∃ s' ρ', iter0 (acode c cv ok lp round x) K k s' ∧ Rel c.gs ρ' s'.hp w' ∧ TR ρ' s'.ts a'.tmps ∧ MR ρ' s'.marks a'.defers ∧ a'.tmps.size = a.tmps.size ∧ Gr ρ w ρ' w')
        ⟨_, s, ρ, h, R, T, M, rfl, Gr.refl _ _⟩ ?_
      rintro k a1 w1 ⟨s1, ρ1, hi, R1, T1, M1, hsz, G1⟩
      cases k with
      | zero => exact hi.elim
      | succ k =>
        refine wpIn_mono (ih round r _ s1 a1 w1 ρ1 hi (by rw [hsz]; exact hok) R1 T1 M1 (hr.mono G1.pre)) ?_
        rintro e a' w' ⟨q, s', ρ', rfl, k1, k2, k3, k4, k5, k6⟩
        cases q with
        | normal => exact ⟨k, Nat.lt_succ_self k, s', ρ', k1, k2, k3, k4, k5.trans hsz, G1.trans k6⟩
        | ret => exact ⟨.ret, s', ρ', rfl, k1, k2, k3, k4, k5.trans hsz, G1.trans k6⟩
        | exit i => exact ⟨.exit i, s', ρ', rfl, k1, k2, k3, k4, k5.trans hsz, G1.trans k6⟩
  | rangeFunc f ps assign body ih1 ih2 =>
    intro round r K s a w ρ h hok R T M hr
    simp only [okC, Bool.and_eq_true] at hok
    obtain ⟨⟨hps, hokA⟩, hokB⟩ := hok
    have hf := get_sound (s := s) (a := a) T f
    unfold acode at h
    split at h
    rotate_left
    · exact h.elim
    rename_i hfn
    refine wpIn_rangeFunc ?_
    intro fn _
    -- the call of the function that is ranged over
    have goes : ∀ (l : Nat) (mark : List Deferred) (w1 : World) (hp1 : List Blk) (ρ1 : List Nat) (k d : Nat) (ms : List Nat) (K' : V → List Blk → Prop),
        (Instr.enterLoop fn a.tmps ps assign body (FR r).round).run P w = .ok (l, mark) w1 → Rel c.gs ρ1 hp1 w1 → Gr ρ w ρ1 w1 → ρ1[k]? = some l → MR ρ1 ms (mark ++ a.defers) →
        cv (s.get f) [.yld k] hp1 K' →
        (∀ v hp, K' v hp → afterK K s.ts ms k hp) →
        ∃ (l : Nat) (mark : List Deferred) (w₁ : World) (d : Deferred) (w₁' : World) (f' : FuncId) (args : Array Value) (w₂ : World),
          (Instr.enterLoop fn a.tmps ps assign body (FR r).round).run P w = .ok (l, mark) w₁ ∧ (resolve a.eval (rangeCall f l) 0).run P w₁ = .ok d w₁' ∧
          (∀ f', Target.leads P w₁' d.target d.args = some f' → (FR r).fn f') ∧ (invoke d.target d.args).run P w₁' = .ok (.enter f' args) w₂ ∧ ((FR r).depth.isSome = true → 1 ≤ 0) ∧
          CallsIn (FR r) (0 - 1) P f' args w₂ (rangePost (FR r) 0 P l (Post c.gs K ρ w a.tmps.size) { a with defers := mark ++ a.defers }) := by
      intro l mark w1 hp1 ρ1 k d ms K' hent R1 G1 hkl M1 hcall hK
      have hy : Ds ρ1 [.yld k] [.func (.yield l) #[] #[]] := by simp only [Ds, D]; exact ⟨_, _, rfl, ⟨l, hkl, rfl⟩, rfl⟩
      rcases hcv _ _ _ _ hcall ρ1 w1 (a.eval f) _ R1 (D_mono G1.pre hf) hy with ⟨g, as, bs, hu, hen, hc⟩ | ⟨rr, RL, hu, hrl, hlen, _⟩
      · refine ⟨l, mark, w1, { target := .fn (.func g) bs, args := as ++ #[.func (.yield l) #[] #[]] }, w1, g, as ++ [Value.func (.yield l) #[] #[]].toArray ++ bs, w1, hent, ?_, fun _ _ => trivial, ?_, fun h => (by cases h), ?_⟩
        · simp only [resolve, rangeCall, hu, Deferred.ofValue]
          simp [Act.eval]
        · simp only [invoke]
          exact hen _ w1
        · show CallsIn Fence.wide 0 P g _ w1 _
          refine hc.mono ?_
          rintro e w' ⟨v, u, hp', ρ', rfl, k1, k2, k3, k4⟩
          have h1 := hK v hp' k1
          exact after_loop (rr := r) (ts := s.ts) (ms := ms) (a' := { a with defers := mark ++ a.defers }) h1 (pre_get k4.pre hkl) k3 (T.mono (G1.pre.trans k4.pre)) (M1.mono k4.pre) rfl (G1.trans k4)
      · exfalso
        cases hsf : s.get f <;> rw [hsf] at hfn hf <;> first | (cases hfn; done) | skip
        simp only [D] at hf
        obtain ⟨p, q, hu', _⟩ := hf
        rw [hu'] at hu
        cases hu
    cases round with
    | none =>
      cases r with
      | some r => exact hr.elim
      | none =>
        obtain ⟨R1, G1⟩ := R.alloc (.deferred (some [])) .dfr rfl
        have hl1 : (ρ ++ [w.heap.size]).length = s.hp.length + 1 := by simp [R.len]
        have hd1 : (ρ ++ [w.heap.size] ++ [(w.alloc (.deferred (some []))).heap.size])[s.hp.length]? = some w.heap.size := by
          rw [List.getElem?_append_left (by omega), ← R.len]; simp
        obtain ⟨R2, G2⟩ := R1.alloc (.loop { state := .ready, pending := none, fn, tmps := a.tmps, params := ps, assign, body, defers := w.heap.size }) (.loop .ready none ⟨ps.toList, assign, body, s.ts, s.hp.length⟩)
          ⟨_, rfl, rfl, rfl, rfl, rfl, rfl, (T.mono G1.pre).mono (List.prefix_append _ _), hd1, hokA, hokB, hps⟩
        have hk2 : (ρ ++ [w.heap.size] ++ [(w.alloc (.deferred (some []))).heap.size])[s.hp.length + 1]? = some (w.heap.size + 1) := by
          rw [← hl1]; simp
        rw [List.append_assoc s.hp] at R2
        exact goes _ _ _ _ _ (s.hp.length + 1) w.heap.size (s.hp.length :: s.marks) _ (run_enterLoop_outer _ _ _ _ _) R2 (G1.trans G2) hk2
          ⟨w.heap.size, a.defers, hd1, rfl, M.mono (G1.pre.trans G2.pre)⟩ h (fun v hp hh => hh)
    | some k₀ =>
      cases r with
      | none => exact hr.elim
      | some r₀ =>
        simp only at h
        split at h
        · rename_i st0 pend0 L0 hk0
          obtain ⟨o, h1, RL, rfl, _, _, _, _, _, _, hd0, _⟩ := R.blk _ _ _ hk0 hr
          obtain ⟨R1, G1⟩ := R.alloc (.loop { state := .ready, pending := none, fn, tmps := a.tmps, params := ps, assign, body, defers := RL.defers }) (.loop .ready none ⟨ps.toList, assign, body, s.ts, L0.d⟩)
            ⟨_, rfl, rfl, rfl, rfl, rfl, rfl, T.mono (List.prefix_append _ _), pre_get (List.prefix_append _ _) hd0, hokA, hokB, hps⟩
          have hk2 : (ρ ++ [w.heap.size])[s.hp.length]? = some w.heap.size := by rw [← R.len]; simp
          exact goes _ _ _ _ _ s.hp.length RL.defers s.marks _ (run_enterLoop_inner h1 _ _ _ _ _) R1 G1 hk2 (M.mono G1.pre) h (fun v hp hh => hh)
        · exact h.elim
end
end Go.Ab
