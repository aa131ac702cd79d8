/- Soundness of AbD, third part: operations that make memory or write to it. -/
import Derived.Test.YtkhmkenankdakabDoorAbF
namespace Go.Ab
open Go
set_option linter.unusedVariables false
set_option linter.unusedSimpArgs false

theorem TR.put {ρ : List Nat} {ts : List (Nat × V)} {a : Act} (h : TR ρ ts a.tmps) {d : Option Tmp} (hd : ∀ x, d = some x → x < a.tmps.size) {v : V} {u : Value} (k : D ρ v u) : TR ρ (putT d v ts) (a.put d u).tmps := by
  cases d with
  | none => exact h
  | some d => exact h.ins (hd d rfl) k

theorem put_size (a : Act) (d : Option Tmp) (u : Value) : (a.put d u).tmps.size = a.tmps.size := by cases d <;> simp [Act.put]

theorem put_defers (a : Act) (d : Option Tmp) (u : Value) : (a.put d u).defers = a.defers := by cases d <;> rfl

theorem D_undef {ρ : List Nat} : D ρ (.tup []) undef := by simp [D, Ds, undef]

theorem setRow_eq {w : World} {g : Nat} {old cs : Array Value} {T : TypeId} {fr : Nat × Nat} (h : w.heap[g]? = some (.cells old T fr)) : w.setRow g cs = { w with heap := w.heap.setIfInBounds g (.cells cs T fr) } := by
  have hlt : g < w.heap.size := (Array.getElem?_eq_some_iff.1 h).1
  unfold World.setRow
  congr 1
  apply Array.ext_getElem?
  intro i
  rw [Array.getElem?_modify]
  by_cases e : g = i
  · subst e
    rw [if_pos rfl, h]
    simp [hlt]
  · rw [if_neg e, Array.getElem?_setIfInBounds_ne e]

section
variable {P : Program} {c : Cx} (hT : TyOk P c) (hE : EqOk P c)
include hT hE

set_option maxHeartbeats 1000000 in
theorem act_sound {s : S} {o : Oper} {K : S → Prop} (h : act c s o K) {ρ : List Nat} {a : Act} {w : World} (R : Rel c.gs ρ s.hp w) (T : TR ρ s.ts a.tmps) (hd : ∀ x, o.dst = some x → x < a.tmps.size) :
    ∃ s' u n w' ρ', (execOp a.eval o).run P w = .ok n w' ∧ (n = .value u ∨ n = .skip ∧ u = undef) ∧ K s' ∧ Rel c.gs ρ' s'.hp w' ∧ TR ρ' s'.ts (a.put o.dst u).tmps ∧ s'.marks = s.marks ∧ Gr ρ w ρ' w' := by
  have G := fun x => get_sound (s := s) (a := a) T x
  unfold act at h
  split at h
  · -- box
    rename_i t x ho
    split at h
    · rename_i cs hcs
      have hds := cellsIf_sound (G x) hcs
      obtain ⟨R', Gr'⟩ := R.alloc (.cells (a.eval x).cells t) (.cells cs) ⟨_, _, rfl, Ds_mono (List.prefix_append _ _) hds⟩
      refine ⟨_, .pointer (some ⟨w.heap.size, 0, none⟩), _, _, _, ?_, .inl rfl, h, R', (T.mono Gr'.pre).put hd ?_, rfl, Gr'⟩
      · simp [execOp, ho, Instr.box, newVar, newRow]
      · simp only [D]; exact ⟨_, by rw [← R.len]; simp, rfl⟩
    · exact h.elim
  · -- alloc
    rename_i t ho
    obtain ⟨e, he, h⟩ := tyOf_of h
    obtain ⟨z, hz, hz2⟩ := run_zero (hT _ _ he) w
    obtain ⟨R', Gr'⟩ := R.alloc (.cells z.cells t) (.cells e.zero) ⟨_, _, rfl, by rw [hz2]; exact Ds_zero _ _⟩
    refine ⟨_, .pointer (some ⟨w.heap.size, 0, none⟩), _, _, _, ?_, .inl rfl, h, R', (T.mono Gr'.pre).put hd ?_, rfl, Gr'⟩
    · simp [execOp, ho, Instr.alloc, hz, newVar, newRow]
    · simp only [D]; exact ⟨_, by rw [← R.len]; simp, rfl⟩
  · -- buildSlice
    rename_i t n parts ho
    obtain ⟨e, he, h⟩ := tyOf_of h
    obtain ⟨i, d, z, q1, q2, q3, q4, q5, q6⟩ := tyMk_spec (hT _ _ he)
    have hps : Ps ρ (parts.toList.map fun p => (p.1, s.get p.2)) (parts.map fun p => (p.1, a.eval p.2)).toList := by
      simpa using Ps_map s.get a.eval G parts.toList
    split at h
    · rename_i el htd
      have hd' : d = .slice el := by
        rw [htd] at q4
        cases d <;> simp [tdMk] at q4 ⊢
        exact q4.symm
      subst hd'
      obtain ⟨ee, hee, h⟩ := tyOf_of h
      obtain ⟨i', d', z', p1, p2, p3, p4, p5, p6⟩ := tyMk_spec (hT _ _ hee)
      split at h
      · rename_i hb
        simp only [Bool.and_eq_true] at hb
        obtain ⟨⟨hb1, hb2⟩, hb3⟩ := hb
        have hb1 := Nat.le_of_ble_eq_true hb1
        have hb3 := Nat.eq_of_beq_eq_true hb3
        have hb2' : ¬ n * ee.size = 0 := by intro e0; rw [e0] at hb2; cases hb2
        have hzs : z'.cells.size = ee.size := by rw [← hb3, p6]; simp
        split at h
        · rename_i cs hcs
          obtain ⟨arr, h1, h2⟩ := fill_sound (ρ := ρ) _ _ _ _ ((Array.range (n * i'.size)).map (z'.cells[· % z'.cells.size]!)) cs hps (by
            rw [Array.toList_map, Array.toList_range, ← p5]
            refine Ds_map _ _ _ fun j hj => ?_
            rw [hzs, p6, List.getD_eq_getElem?_getD, List.getElem?_map]
            cases hc : z'.cells[j % ee.size]? with
            | none => simp [hc, D]
            | some u =>
              have h1 : z'.cells.toList[j % ee.size]? = some u := by simpa using hc
              rw [h1, getElem!_def, hc]
              exact D_lift u) hcs
          rw [← p5] at h1
          have hr := run_buildSlice (P := P) w t el n (parts.map fun p => (p.1, a.eval p.2)) arr i' z' q2 p1 p3 (by rw [← p5]; omega) (by rw [← p5]; omega) (by rw [← p5]; exact h1)
          obtain ⟨R', Gr'⟩ := R.alloc (.cells arr el) (.cells cs) ⟨_, _, rfl, Ds_mono (List.prefix_append _ _) h2⟩
          refine ⟨_, .slice (some ⟨w.heap.size, 0, none⟩) n n, _, _, _, ?_, .inl rfl, h, R', (T.mono Gr'.pre).put hd ?_, rfl, Gr'⟩
          · simp [execOp, ho, hr]
          · simp only [D]; exact ⟨_, by rw [← R.len]; simp, rfl⟩
        · exact h.elim
      · exact h.elim
    · exact h.elim
  · -- store
    rename_i t x y ho
    obtain ⟨e, he, h⟩ := tyOf_of h
    have hsz := run_size (hT _ _ he) w
    have hx := G x
    split at h
    · rename_i k off hk
      rw [hk] at hx
      simp only [D] at hx
      obtain ⟨r, hr, hu⟩ := hx
      split at h
      · rename_i vs us hvs hus
        split at h
        · rename_i hb
          simp only [Bool.and_eq_true] at hb
          obtain ⟨⟨hb1, hb2⟩, hb3⟩ := hb
          have hb1 := Nat.eq_of_beq_eq_true hb1
          have hb2 := Nat.le_of_ble_eq_true hb2
          obtain ⟨ob, h1, cur, T', rfl, h2⟩ := R.blk _ _ _ (cellsAt_spec hvs) hr
          have hy := cellsIf_sound (G y) hus
          have hl1 := Ds_len hy
          have hl2 := Ds_len h2
          have hone : ∀ v ∈ (a.eval y).cells.toList, v.oneCell' = true := fun v hv => by
            obtain ⟨j, hj, hjv⟩ := List.getElem_of_mem hv
            have hj' : us[j]? = some (us[j]'(by omega)) := List.getElem?_eq_getElem (by omega)
            obtain ⟨u, hu1, hu2⟩ := Ds_get hy hj'
            rw [List.getElem?_eq_getElem hj] at hu1
            cases hu1
            rw [← hjv]
            exact D_one hu2 (List.all_eq_true.mp hb3 _ (List.getElem_mem _))
          have hlen : (a.eval y).cells.toList.length = e.size := by omega
          have hlen' : (a.eval y).cells.size = e.size := by simpa using hlen
          have hrun := run_storeCells_at (P := P) r off T' (a.eval y).cells.toList 0 cur w h1 (by simp at hl1 hl2 ⊢; omega) hone
          rw [setRow_eq h1, Nat.add_zero, hlen] at hrun
          have hds : Ds ρ (setAt vs off us) (cur.toList.take off ++ (a.eval y).cells.toList ++ cur.toList.drop (off + e.size)) := by
            rw [setAt_eq us vs off (by omega), hb1]
            exact Ds_append (Ds_append (Ds_take h2 _) hy) (Ds_drop h2 _)
          obtain ⟨row, hrow⟩ : ∃ row, (cur.toList.take off ++ (a.eval y).cells.toList ++ cur.toList.drop (off + e.size)).toArray = row := ⟨_, rfl⟩
          rw [hrow] at hrun
          obtain ⟨R', Gr'⟩ := R.put hr (.cells row T' (0, 0)) (.cells (setAt vs off us)) ⟨_, T', rfl, by rw [← hrow]; simpa using hds⟩
          refine ⟨_, undef, .skip, _, _, ?_, .inr ⟨rfl, rfl⟩, h, R', T.put hd D_undef, rfl, Gr'⟩
          have hsv : (storeVar t ⟨r, off, none⟩ (a.eval y)).run P w = .ok () { w with heap := w.heap.setIfInBounds r (.cells row T' (0, 0)) } := by
            simp only [storeVar]
            simp [hsz, hlen', hrun]
          simp only [execOp, ho, hu, Instr.storeAt, Instr.sureAddr]
          simp [hsv]
        · exact h.elim
      · exact h.elim
    · exact h.elim
  · split at h
    · rename_i v b hv
      obtain ⟨rfl, h1⟩ := req_of h
      obtain ⟨u, h2, h3⟩ := look_sound hT hE hv R T
      exact ⟨_, u, _, w, ρ, h3, .inl rfl, h1, R, T.put hd h2, rfl, Gr.refl _ _⟩
    · exact h.elim
end
end Go.Ab
