/- Soundness of Ba, fifth part: code, calls, rounds. -/
import Derived.Test.YtbammhmbapeboaaGreatDoorBg
namespace Go.B
open Go
set_option linter.unusedVariables false
set_option linter.unusedSectionVars false
set_option linter.unusedSimpArgs false

theorem MR_new {W : Nat} {w : World} {H' : Nat} {ρ ρ' : Env} {k : Nat} {ms : List Nat} {ds : List Deferred} (hW : W ≤ w.heap.size) (hk : ρ'.l[k]? = some w.heap.size) (le : ρ.le ρ') (hH : w.heap.size < H') (M : MR W w.heap.size ρ ms ds) :
    MR W H' ρ' (k :: ms) ({ target := .collected w.heap.size, args := #[] } :: ds) :=
  ⟨_, rfl, hW, hH, fun d hd e => by
    obtain ⟨r, h1, h2⟩ := M.lt d hd
    rw [h1] at e
    simp at e
    omega, .inl ⟨k, ms, rfl, hk, M.mono le (Nat.le_of_lt hH)⟩⟩

theorem Post.trans {W : Nat} {gs : List (Nat × CF)} {K : Ret → S → Prop} {ρ ρ1 : Env} {w w1 : World} {sz : Nat} {e : Exit} {a' : Act} {w' : World} (G : Gr ρ w ρ1 w1) (h : Post W gs K ρ1 w1 sz e a' w') : Post W gs K ρ w sz e a' w' := by
  obtain ⟨q, s', ρ', h1, h2, h3, h4, h5, h6, h7⟩ := h
  exact ⟨q, s', ρ', h1, h2, h3, h4, h5, h6, G.trans h7⟩

theorem blk_same {K : Ret → S → Prop} {i : Nat} {s : S} (h : blkK K i (.exit i) s) : K .normal s := by
  have h' : (match Nat.beq i i with | true => K .normal s | false => K (.exit i) s) := h
  rwa [Nat.beq_refl] at h'

theorem blk_other {K : Ret → S → Prop} {i id : Nat} {s : S} (hi : i ≠ id) (h : blkK K id (.exit i) s) : K (.exit i) s := by
  have h' : (match Nat.beq i id with | true => K .normal s | false => K (.exit i) s) := h
  rwa [beq_ne hi] at h'

theorem getD_lt {α : Type} {l : List α} {i : Nat} {x : α} (h : l[i]? = some x) : i < l.length := (List.getElem?_eq_some_iff.mp h).1

/-- a loop ends in a state that tells no more -/
def wkK (N : Nat) (K : Ret → S → Prop) : Ret → S → Prop := fun q s => ∃ s', wk N s s' ∧ K q s'

/-- what is owed of loops is shown -/
def LoopsOk (c : Cx) (fid : FuncId) (cv : CV) (ok : Nat → Nat → Bool) (lp : Nat → Nat → Lp) : Prop :=
  ∀ id m rd a g, lp id m = .auto rd a g → ∀ K s, g s K → ∃ (J : Nat → S → Prop) (X : Ret → S → Prop) (k : Nat), J k s ∧ (∀ s1, ¬ J 0 s1) ∧ (∀ q s1, X q s1 → wkK s.hp.length K q s1) ∧ ∀ k s1, J (k + 1) s1 → ∃ s2, wk s.hp.length s1 s2 ∧ acode c fid cv ok lp rd a (iterK X (J k)) s2

section
variable {P : Program} {c : Cx} (hT : TyOk P c) (hE : EqOk P c)
include hT hE

omit hT hE in

/-- what follows a range over a function: the pending jump -/
theorem after_loop {W : Nat} {K : Ret → S → Prop} {ts : List (Nat × V)} {ms : List Nat} {hp : List Blk} {k r : Nat} {rr : Option Nat} {ρ ρ' : Env} {w w' : World} {a' : Act} {sz : Nat}
    (h : afterK K ts ms k hp) (hr : ρ'.l[k]? = some r) (R : Rel c.gs ρ' hp w') (T : TR ρ' ts a'.tmps) (M : MR W w'.heap.size ρ' ms a'.defers) (hsz : a'.tmps.size = sz) (G : Gr ρ w ρ' w') :
    ∃ jump w₄, (Instr.endLoop r).run P w' = .ok jump w₄ ∧
      (match jump with
       | none => Post W c.gs K ρ w sz .normal a' w₄
       | some cd => cd.wpIn (FR rr) 0 P (Post W c.gs K ρ w sz) a' w₄) := by
  unfold afterK at h
  split at h
  · rename_i st pend L hk
    obtain ⟨o, h1, h2⟩ := R.get hk hr id
    obtain ⟨RL, rfl, hst, hpend, _⟩ := h2
    have hnb : RL.state ≠ .busy := by rw [hst]; intro e; subst e; exact h
    have hrun := run_endLoop (P := P) h1 hnb
    obtain ⟨R', G'⟩ := R.put hk id rfl hr (.loop { RL with state := .exhausted }) .dead rfl trivial
    obtain ⟨w4, hw4⟩ : ∃ w4, w'.putObj r (.loop { RL with state := .exhausted }) = w4 := ⟨_, rfl⟩
    have R'' : Rel c.gs ρ' (hp.set k .dead) w4 := hw4 ▸ R'
    have G'' : Gr ρ' w' ρ' w4 := hw4 ▸ G'
    rw [hw4] at hrun
    rw [hpend] at hrun
    refine ⟨_, _, hrun, ?_⟩
    have fin : ∀ q, K q ⟨ts, hp.set k .dead, ms⟩ → Post W c.gs K ρ w sz (Ex q) a' w4 := fun q hq =>
      ⟨q, _, ρ', rfl, hq, R'', T, M.mono (Env.le_refl _) G''.size, hsz, G.trans G''⟩
    have h' : pendK K ⟨ts, hp.set k .dead, ms⟩ pend := by cases st <;> first | exact h | exact h.elim
    clear hrun hpend hk h
    cases pend with
    | none => exact fin .normal h'
    | some cd =>
      cases cd <;> first
        | exact h'.elim
        | exact wpIn_ret (fin .ret h')
        | exact wpIn_exit (fin (.exit _) h')
  · exact h.elim

theorem acode_sound {W : Nat} (hF : FnsOk P c) (hm : P.follows .mixedOrders = true) {cv : CV} (hcv : CvOk P c.gs cv) (fid : FuncId) (ok : Nat → Nat → Bool) (lp : Nat → Nat → Lp) (hL : LoopsOk c fid cv ok lp) : ∀ (code : Code) (round r : Option Nat) (K : Ret → S → Prop) (s : S) (a : Act) (w : World) (ρ : Env),
    acode c fid cv ok lp round code K s → okC a.tmps.size code = true → Rel c.gs ρ s.hp w → TR ρ s.ts a.tmps → MR W w.heap.size ρ s.marks a.defers → W ≤ w.heap.size → RR ρ round r →
    code.wpIn (FR r) 0 P (Post W c.gs K ρ w a.tmps.size) a w := by
  intro code
  induction code with
  | skip => exact fun round r K s a w ρ h _ R T M _ _ => wpIn_skip ⟨.normal, s, ρ, rfl, h, R, T, M, rfl, Gr.refl _ _⟩
  | label l => exact fun round r K s a w ρ h _ R T M _ _ => wpIn_label ⟨.normal, s, ρ, rfl, h, R, T, M, rfl, Gr.refl _ _⟩
  | ret => exact fun round r K s a w ρ h _ R T M _ _ => wpIn_ret ⟨.ret, s, ρ, rfl, h, R, T, M, rfl, Gr.refl _ _⟩
  | exit id => exact fun round r K s a w ρ h _ R T M _ _ => wpIn_exit ⟨.exit id, s, ρ, rfl, h, R, T, M, rfl, Gr.refl _ _⟩
  | goto l => exact fun round r K s a w ρ h => h.elim
  | refuse y => exact fun round r K s a w ρ h => h.elim
  | region id ops draw =>
    intro round r K s a w ρ h hok R T M hW hr
    cases draw with
    | true =>
      have anyway : ∀ tk, (tk = true → r = none) → aany c cv ops (fun s => forceS (keep (ok id) s) (K .normal)) tk ops.size (Array.replicate ops.size false) s → (Code.region id ops true).wpIn (FR r) 0 P (Post W c.gs K ρ w a.tmps.size) a w := fun tk htk h =>
        wpIn_region_any hm (aany_sound hT hE hcv r tk htk (fun ch a w ⟨q, _, _, hq, _⟩ => by cases q <;> cases hq) a.tmps.size hok _ _ s a _ ρ h rfl (R.drew _) T (fun s' ρ' a' w' k1 k2 k3 k4 k5 k6 k7 => ⟨.normal, keep (ok id) s', ρ', rfl, (forceS_eq _ _).mp k1, k2, (k3.filter (ok id)).sorted, by
            show MR W w'.heap.size ρ' s'.marks a'.defers
            rw [k4, k5]; exact M.mono k7.pre k7.size, k6, (Gr.drew _).trans k7⟩))
      cases round with
      | some _ => exact anyway false (fun h => by cases h) h
      | none =>
        cases r with
        | some _ => exact hr.elim
        | none =>
          change (match drawB c ops with
            | true => adraw c cv ops (fun s => forceS (keep (ok id) s) (K .normal)) s
            | false => aany2 c cv ops (fun s => forceS (keep (ok id) s) (K .normal)) ops.size (Array.replicate ops.size false) s) at h
          split at h
          rotate_left
          · refine wpIn_wide.2 ?_
            exact aany2_region hT hE hF hm hcv h hok R T (fun ch a w ⟨q, _, _, hq, _⟩ => by cases q <;> cases hq) (fun s' ρ' a' w' k1 k2 k3 k4 k5 k6 k7 => ⟨.normal, keep (ok id) s', ρ', rfl, (forceS_eq _ _).mp k1, k2, (k3.filter (ok id)).sorted, by
              show MR W w'.heap.size ρ' s'.marks a'.defers
              rw [k4, k5]; exact M.mono k7.pre k7.size, k6, k7⟩)
          refine wpIn_wide.2 ?_
          exact adraw_sound hT hE hF hm hcv h hok R T (fun s' ρ' a' w' k1 k2 k3 k4 k5 k6 k7 => ⟨.normal, keep (ok id) s', ρ', rfl, (forceS_eq _ _).mp k1, k2, (k3.filter (ok id)).sorted, by
            show MR W w'.heap.size ρ' s'.marks a'.defers
            rw [k4, k5]; exact M.mono k7.pre k7.size, k6, k7⟩)
    | false =>
      refine wpIn_region ?_
      have := aops_sound hT hE hcv (ops := ops) r ops.toList 0 s a w ρ (fun s => forceS (keep (ok id) s) (K .normal)) (Post W c.gs K ρ w a.tmps.size) (fun j _ => by simp) hok h R T
        (fun s' ρ' a' w' k1 k2 k3 k4 k5 k6 k7 => ⟨.normal, keep (ok id) s', ρ', rfl, (forceS_eq _ _).mp k1, k2, (k3.filter (ok id)).sorted, by
          show MR W w'.heap.size ρ' s'.marks a'.defers
          rw [k4, k5]; exact M.mono k7.pre k7.size, k6, k7⟩)
      rw [List.range_eq_range']
      simpa using this
  | seq x y ihx ihy =>
    intro round r K s a w ρ h hok R T M hW hr
    simp only [okC, Bool.and_eq_true] at hok
    refine wpIn_seq (wpIn_mono (ihx round r _ s a w ρ h hok.1 R T M hW hr) ?_)
    rintro e a' w' ⟨q, s', ρ', rfl, k1, k2, k3, k4, k5, k6⟩
    cases q with
    | normal =>
      refine wpIn_mono (ihy round r K s' a' w' ρ' k1 (by rw [k5]; exact hok.2) k2 k3 k4 (Nat.le_trans hW k6.size) (hr.mono k6.pre)) ?_
      intro e a2 w2 h2
      rw [k5] at h2
      exact h2.trans k6
    | ret => exact ⟨.ret, s', ρ', rfl, k1, k2, k3, k4, k5, k6⟩
    | exit i => exact ⟨.exit i, s', ρ', rfl, k1, k2, k3, k4, k5, k6⟩
  | cond x y z ihy ihz =>
    intro round r K s a w ρ h hok R T M hW hr
    simp only [okC, Bool.and_eq_true] at hok
    unfold acode at h
    split at h
    · rename_i t ht
      have hx := get_sound (s := s) (a := a) T x
      rw [ht] at hx
      simp only [D] at hx
      cases t with
      | true => exact wpIn_cond_true hx (ihy round r K s a w ρ h hok.1 R T M hW hr)
      | false => exact wpIn_cond_false hx (ihz round r K s a w ρ h hok.2 R T M hW hr)
    · exact h.elim
  | block id x ih =>
    intro round r K s a w ρ h hok R T M hW hr
    refine wpIn_block (wpIn_mono (ih round r _ s a w ρ h hok R T M hW hr) ?_)
    rintro e a' w' ⟨q, s', ρ', rfl, k1, k2, k3, k4, k5, k6⟩
    cases q with
    | normal => exact ⟨.normal, s', ρ', rfl, k1, k2, k3, k4, k5, k6⟩
    | ret => exact ⟨.ret, s', ρ', rfl, k1, k2, k3, k4, k5, k6⟩
    | exit i =>
      simp only [Ex, Exit.inBlock]
      by_cases hi : i = id
      · subst hi
        have k1 := blk_same k1
        rw [if_pos rfl]
        exact ⟨.normal, s', ρ', rfl, k1, k2, k3, k4, k5, k6⟩
      · have k1 := blk_other hi k1
        rw [if_neg hi]
        exact ⟨.exit i, s', ρ', rfl, k1, k2, k3, k4, k5, k6⟩
  | scope x ih =>
    intro round r K s a w ρ h hok R T M hW hr
    refine wpIn_scope ?_ (ih round r K s a w ρ h hok R T M hW hr)
    rintro l a' w' ⟨q, _, _, hq, _⟩
    cases q <;> cases hq
  | loop x ih =>
    intro round r K s a w ρ h hok R T M hW hr
    change (match lp (firstOf x) s.hp.length with
      | .ex => ∃ k, iter s.hp.length (acode c fid cv ok lp round x) K k s
      | .unroll n => iter0 (acode c fid cv ok lp round x) K n s
      | .auto rd a' g => rd = round ∧ a' = x ∧ g s K) at h
    have rounds : ∀ K' : Ret → S → Prop, (∃ k, iter s.hp.length (acode c fid cv ok lp round x) K' k s) → (Code.loop x).wpIn (FR r) 0 P (Post W c.gs K' ρ w a.tmps.size) a w := by
      rintro K' ⟨k, h⟩
      refine wpIn_loop_count (fun k a' w' => ∃ s' ρ', iter s.hp.length (acode c fid cv ok lp round x) K' k s' ∧ Rel c.gs ρ' s'.hp w' ∧ TR ρ' s'.ts a'.tmps ∧ MR W w'.heap.size ρ' s'.marks a'.defers ∧ a'.tmps.size = a.tmps.size ∧ Gr ρ w ρ' w')
        ⟨k, s, ρ, h, R, T, M, rfl, Gr.refl _ _⟩ ?_
      rintro k a1 w1 ⟨s1, ρ1, hi, R1, T1, M1, hsz, G1⟩
      cases k with
      | zero => exact hi.elim
      | succ k =>
        obtain ⟨s2, hw, hc⟩ := hi
        obtain ⟨ρ2, R2, T2, M2, G2⟩ := wk_sound hw R1 T1 M1 R.len G1
        refine wpIn_mono (ih round r _ s2 a1 w1 ρ2 hc (by rw [hsz]; exact hok) R2 T2 M2 (Nat.le_trans hW G2.size) (hr.mono G2.pre)) ?_
        rintro e a' w' ⟨q, s', ρ', rfl, k1, k2, k3, k4, k5, k6⟩
        cases q with
        | normal => exact ⟨k, Nat.lt_succ_self k, s', ρ', k1, k2, k3, k4, k5.trans hsz, G2.trans k6⟩
        | ret => exact ⟨.ret, s', ρ', rfl, k1, k2, k3, k4, k5.trans hsz, G2.trans k6⟩
        | exit i => exact ⟨.exit i, s', ρ', rfl, k1, k2, k3, k4, k5.trans hsz, G2.trans k6⟩
    split at h
    · exact rounds K h
    · refine wpIn_loop_count (fun k a' w' => ∃ s' ρ', iter0 (acode c fid cv ok lp round x) K k s' ∧ Rel c.gs ρ' s'.hp w' ∧ TR ρ' s'.ts a'.tmps ∧ MR W w'.heap.size ρ' s'.marks a'.defers ∧ a'.tmps.size = a.tmps.size ∧ Gr ρ w ρ' w')
        ⟨_, s, ρ, h, R, T, M, rfl, Gr.refl _ _⟩ ?_
      rintro k a1 w1 ⟨s1, ρ1, hi, R1, T1, M1, hsz, G1⟩
      cases k with
      | zero => exact hi.elim
      | succ k =>
        refine wpIn_mono (ih round r _ s1 a1 w1 ρ1 hi (by rw [hsz]; exact hok) R1 T1 M1 (Nat.le_trans hW G1.size) (hr.mono G1.pre)) ?_
        rintro e a' w' ⟨q, s', ρ', rfl, k1, k2, k3, k4, k5, k6⟩
        cases q with
        | normal => exact ⟨k, Nat.lt_succ_self k, s', ρ', k1, k2, k3, k4, k5.trans hsz, G1.trans k6⟩
        | ret => exact ⟨.ret, s', ρ', rfl, k1, k2, k3, k4, k5.trans hsz, G1.trans k6⟩
        | exit i => exact ⟨.exit i, s', ρ', rfl, k1, k2, k3, k4, k5.trans hsz, G1.trans k6⟩
    · rename_i rd a' g hg
      obtain ⟨rfl, rfl, h⟩ := h
      obtain ⟨J, X, k, hJ, h0, hX, hround⟩ := hL _ _ _ _ _ hg K s h
      refine wpIn_loop_count (fun k a' w' => ∃ s' ρ', J k s' ∧ Rel c.gs ρ' s'.hp w' ∧ TR ρ' s'.ts a'.tmps ∧ MR W w'.heap.size ρ' s'.marks a'.defers ∧ a'.tmps.size = a.tmps.size ∧ Gr ρ w ρ' w')
        ⟨k, s, ρ, hJ, R, T, M, rfl, Gr.refl _ _⟩ ?_
      rintro k a1 w1 ⟨s1, ρ1, hi, R1, T1, M1, hsz, G1⟩
      cases k with
      | zero => exact (h0 _ hi).elim
      | succ k =>
        obtain ⟨s2, hw, hc⟩ := hround k s1 hi
        obtain ⟨ρ2, R2, T2, M2, G2⟩ := wk_sound hw R1 T1 M1 R.len G1
        refine wpIn_mono (ih _ r _ s2 a1 w1 ρ2 hc (by rw [hsz]; exact hok) R2 T2 M2 (Nat.le_trans hW G2.size) (hr.mono G2.pre)) ?_
        rintro e a' w' ⟨q, s', ρ', rfl, k1, k2, k3, k4, k5, k6⟩
        have ending : ∀ q, X q s' → Post W c.gs K ρ w a.tmps.size (Ex q) a' w' := fun q hx => by
          obtain ⟨s3, hw3, k1⟩ := hX q s' hx
          obtain ⟨ρ3, R3, T3, M3, G3⟩ := wk_sound hw3 k2 k3 k4 R.len (G2.trans k6)
          exact ⟨q, s3, ρ3, rfl, k1, R3, T3, M3, k5.trans hsz, G3⟩
        cases q with
        | normal => exact ⟨k, Nat.lt_succ_self k, s', ρ', k1, k2, k3, k4, k5.trans hsz, G2.trans k6⟩
        | ret => exact ending .ret k1
        | exit i => exact ending (.exit i) k1
  | rangeFunc f ps assign body ih1 ih2 =>
    intro round r K s a w ρ h hok R T M hW hr
    simp only [okC, Bool.and_eq_true] at hok
    obtain ⟨⟨hps, hokA⟩, hokB⟩ := hok
    have hf := get_sound (s := s) (a := a) T f
    unfold acode at h
    split at h
    rotate_left
    · exact h.elim
    rename_i hfn
    refine wpIn_rangeFunc ?_
    intro fn _
    -- the call of the function that is ranged over
    have goes : ∀ (l : Nat) (mark : List Deferred) (w1 : World) (hp1 : List Blk) (ρ1 : Env) (k d : Nat) (ms : List Nat) (K' : V → List Blk → Prop),
        (Instr.enterLoop fn a.tmps ps assign body (FR r).round).run P w = .ok (l, mark) w1 → Rel c.gs ρ1 hp1 w1 → Gr ρ w ρ1 w1 → ρ1.l[k]? = some l → MR W w1.heap.size ρ1 ms (mark ++ a.defers) →
        cv (s.get f) [.yld k] hp1 K' →
        (∀ v hp, K' v hp → afterK K s.ts ms k hp) →
        ∃ (l : Nat) (mark : List Deferred) (w₁ : World) (d : Deferred) (w₁' : World) (f' : FuncId) (args : Array Value) (w₂ : World),
          (Instr.enterLoop fn a.tmps ps assign body (FR r).round).run P w = .ok (l, mark) w₁ ∧ (resolve a.eval (rangeCall f l) 0).run P w₁ = .ok d w₁' ∧
          (∀ f', Target.leads P w₁' d.target d.args = some f' → (FR r).fn f') ∧ (invoke d.target d.args).run P w₁' = .ok (.enter f' args) w₂ ∧ ((FR r).depth.isSome = true → 1 ≤ 0) ∧
          CallsIn (FR r) (0 - 1) P f' args w₂ (rangePost (FR r) 0 P l (Post W c.gs K ρ w a.tmps.size) { a with defers := mark ++ a.defers }) := by
      intro l mark w1 hp1 ρ1 k d ms K' hent R1 G1 hkl M1 hcall hK
      have hy : Ds ρ1 [.yld k] [.func (.yield l) #[] #[]] := by simp only [Ds, D]; exact ⟨_, _, rfl, ⟨l, hkl, rfl⟩, rfl⟩
      rcases hcv _ _ _ _ hcall ρ1 w1 (a.eval f) _ R1 (D_mono G1.pre hf) hy with ⟨g, as, bs, hu, hen, hc⟩ | ⟨rr, RL, hu, hrl, hlen, _⟩
      · refine ⟨l, mark, w1, { target := .fn (.func g) bs, args := as ++ #[.func (.yield l) #[] #[]] }, w1, g, as ++ [Value.func (.yield l) #[] #[]].toArray ++ bs, w1, hent, ?_, fun _ _ => trivial, ?_, fun h => (by cases h), ?_⟩
        · simp only [resolve, rangeCall, hu, Deferred.ofValue]
          simp [Act.eval]
        · simp only [invoke]
          exact hen _ w1
        · show CallsIn Fence.wide 0 P g _ w1 _
          refine hc.mono ?_
          rintro e w' ⟨v, u, hp', ρ', rfl, k1, k2, k3, k4⟩
          have h1 := hK v hp' k1
          exact after_loop (rr := r) (ts := s.ts) (ms := ms) (a' := { a with defers := mark ++ a.defers }) h1 (pre_get k4.pre hkl) k3 (T.mono (Env.le_trans G1.pre k4.pre)) (M1.mono k4.pre k4.size) rfl (G1.trans k4)
      · exfalso
        cases hsf : s.get f <;> rw [hsf] at hfn hf <;> first | (cases hfn; done) | skip
        simp only [D] at hf
        obtain ⟨p, q, hu', _⟩ := hf
        rw [hu'] at hu
        cases hu
    cases round with
    | none =>
      cases r with
      | some r => exact hr.elim
      | none =>
        obtain ⟨R1, G1⟩ := R.alloc (.deferred (some [])) .dfr rfl rfl
        have hl1 : (ρ.snoc w.heap.size).l.length = s.hp.length + 1 := by simp [Env.snoc, R.len]
        have hd1 : ((ρ.snoc w.heap.size).snoc (w.alloc (.deferred (some []))).heap.size).l[s.hp.length]? = some w.heap.size := by
          refine pre_get (Env.le_snoc _ _) ?_
          rw [← R.len]; exact snoc_get _ _
        obtain ⟨R2, G2⟩ := R1.alloc (.loop { state := .ready, pending := none, fn, tmps := a.tmps, params := ps, assign, body, defers := w.heap.size }) (.loop .ready none ⟨fid, ps.toList, assign, body, s.ts, s.hp.length⟩) rfl
          ⟨_, rfl, rfl, rfl, rfl, rfl, rfl, (T.mono G1.pre).mono (Env.le_snoc _ _), hd1, hokA, hokB, hps⟩
        have hk2 : ((ρ.snoc w.heap.size).snoc (w.alloc (.deferred (some []))).heap.size).l[s.hp.length + 1]? = some (w.heap.size + 1) := by
          rw [← hl1, snoc_get]; simp
        rw [List.append_assoc s.hp] at R2
        exact goes _ _ _ _ _ (s.hp.length + 1) w.heap.size (s.hp.length :: s.marks) _ (run_enterLoop_outer _ _ _ _ _) R2 (G1.trans G2) hk2
          (MR_new hW hd1 (Env.le_trans G1.pre G2.pre) (some_lt (R2.get (k := s.hp.length) (b := .dfr) (by simp) hd1 id).choose_spec.1) M) h (fun v hp hh => hh)
    | some k₀ =>
      cases r with
      | none => exact hr.elim
      | some r₀ =>
        simp only at h
        split at h
        · rename_i st0 pend0 L0 hk0
          obtain ⟨o, h1, RL, rfl, _, _, _, _, _, _, hd0, _⟩ := R.get hk0 hr id
          obtain ⟨R1, G1⟩ := R.alloc (.loop { state := .ready, pending := none, fn, tmps := a.tmps, params := ps, assign, body, defers := RL.defers }) (.loop .ready none ⟨fid, ps.toList, assign, body, s.ts, L0.d⟩) rfl
            ⟨_, rfl, rfl, rfl, rfl, rfl, rfl, T.mono (Env.le_snoc _ _), pre_get (Env.le_snoc _ _) hd0, hokA, hokB, hps⟩
          have hk2 : (ρ.snoc w.heap.size).l[s.hp.length]? = some w.heap.size := by rw [← R.len]; exact snoc_get _ _
          exact goes _ _ _ _ _ s.hp.length RL.defers s.marks _ (run_enterLoop_inner h1 _ _ _ _ _) R1 G1 hk2 (M.mono G1.pre G1.size) h (fun v hp hh => hh)
        · exact h.elim
end
end Go.B
