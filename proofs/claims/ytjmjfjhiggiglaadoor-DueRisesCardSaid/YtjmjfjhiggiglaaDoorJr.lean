/- Which rows may be, told by their times. -/
import Derived.Test.YtjmjfjhiggiglaaDoorJe
namespace Go.Proofs.YtjmjfjhiggiglaaDoor
open Go Go.B
set_option linter.unusedSimpArgs false
set_option linter.unusedVariables false
set_option linter.unusedSectionVars false
set_option maxRecDepth 20000

theorem rise_pair : ∀ {l : List Int}, riseB l = true ↔ l.Pairwise (· < ·)
  | [] => by simp [riseB]
  | [a] => by simp [riseB]
  | a :: b :: l => by
    simp only [riseB, Bool.and_eq_true, decide_eq_true_eq]
    rw [rise_pair (l := b :: l), List.pairwise_cons (a := a)]
    constructor
    · rintro ⟨h1, h2⟩
      refine ⟨fun x hx => ?_, h2⟩
      rcases List.mem_cons.mp hx with rfl | hx
      · exact h1
      · exact Int.lt_trans h1 ((List.pairwise_cons.mp h2).1 x hx)
    · rintro ⟨h1, h2⟩
      exact ⟨h1 b (by simp), h2⟩

/-- what is asked of a row's times -/
def Line (j : Job) (l : List Int) : Prop := (∀ t ∈ l, mayT t = true ∧ ofJ j t = true) ∧ l.Pairwise (· < ·)

theorem row_iff {r : Row} : r.ok = true ↔ r.j.good = true ∧ (r.pa = true → r.nx = -1) ∧ 0 ≤ r.try_ ∧ r.try_ ≤ r.j.re ∧ r.q.length ≤ 3 ∧ (r.num = 0 → r.due = 0 ∧ r.try_ = 0 ∧ r.q = []) ∧ (r.j.ov = 1 ∨ r.q = []) ∧ Line r.j r.line := by
  have e : (riseB r.line && r.line.all fun t => mayT t && ofJ r.j t) = true ↔ Line r.j r.line := by
    rw [Bool.and_eq_true, rise_pair, List.all_eq_true]
    unfold Line
    simp only [Bool.and_eq_true]
    exact And.comm
  unfold Row.ok
  rw [← e]
  simp only [Bool.and_eq_true, Bool.or_eq_true, Bool.not_eq_true', decide_eq_true_eq, beq_iff_eq, beq_eq_false_iff_ne, Bool.and_true]
  have q0 : r.q = [] ↔ ((r.q.length : Nat) : Int) = 0 := by rw [← List.length_eq_zero_iff]; omega
  rw [q0]
  constructor
  · rintro ⟨h1, h2, h3, h4, h5, h6, h7, h8⟩
    refine ⟨h1, fun hp => ?_, h3, h4, by omega, fun hn => ?_, h7, h8⟩
    · rcases h2 with e | e
      · rw [hp] at e; cases e
      · exact e
    · rcases h6 with e | ⟨⟨_, e1, e2⟩, e3⟩
      · exact absurd hn e
      · exact ⟨e1, e2, e3⟩
  · rintro ⟨h1, h2, h3, h4, h5, h6, h7, h8⟩
    refine ⟨h1, ?_, h3, h4, by omega, ?_, h7, h8⟩
    · cases hp : r.pa
      · exact .inl rfl
      · exact .inr (h2 hp)
    · by_cases hn : r.num = 0
      · obtain ⟨e1, e2, e3⟩ := h6 hn
        exact .inr ⟨⟨hn, e1, e2⟩, e3⟩
      · exact .inl hn

/-- what is offered: times of the job, rising, from Next up to now -/
theorem off_told {r : Row} (h : r.j.in) (hok : r.ok = true) {now : Int} (hm : mayT now = true) (hx : r.nx ≠ -1) (hle : ¬ r.nx > now) :
    (∀ t ∈ offL r now, ofJ r.j t = true ∧ r.nx ≤ t ∧ t ≤ now) ∧ (offL r now).Pairwise (· < ·) := by
  obtain ⟨m0, m1⟩ := mayT_true hm
  obtain ⟨x1, x2⟩ := line_next hok hx
  obtain ⟨last, hl, hge⟩ := latestJ_of h x2 (a := now) (by omega)
  obtain ⟨l0, l1, l2, hg⟩ := latestJ_some hl
  have one : ∀ {t : Int}, t = last → (∀ u ∈ [t], ofJ r.j u = true ∧ r.nx ≤ u ∧ u ≤ now) ∧ [t].Pairwise (· < ·) := fun {t} e => by
    subst e
    exact ⟨fun u hu => by simp at hu; subst hu; exact ⟨latestJ_is hl, hge, l2⟩, List.pairwise_singleton _ _⟩
  unfold offL
  by_cases c0 : r.j.ca = 0
  · rw [if_pos c0, hl]
    simp only
    split
    · exact ⟨fun u hu => (by cases hu), List.Pairwise.nil⟩
    · exact one rfl
  · rw [if_neg c0]
    by_cases c1 : r.j.ca = 1
    · rw [if_pos c1, hl]; exact one rfl
    · rw [if_neg c1]
      obtain ⟨a, b⟩ := chain_mem (timesL_chain (j := r.j) (hi := now) (d := 4) (p := r.nx - 1))
      exact ⟨fun u hu => by obtain ⟨p, q, s⟩ := a u hu; exact ⟨p, by omega, s⟩, b⟩

theorem of_may {j : Job} {t : Int} (h : ofJ j t = true) : mayT t = true := by
  obtain ⟨_, t0, t1, _⟩ := ofJ_parts h
  unfold mayT
  rw [yes_of (p := 0 ≤ t) t0, yes_of (p := t ≤ 253402300799) t1]; rfl

/-- a row's times but its Next -/
def lnG (g : Go3) : List Int := (if g.n > 0 then [g.d] else []) ++ g.q

theorem line_ln (r : Row) : r.line = lnG r.go3 ++ (if r.nx = -1 then [] else [r.nx]) := rfl

structure FI (r : Row) (fr : Int) (L : List Int) (g : Go3) : Prop where
  n0 : 0 ≤ g.n
  z : g.n = 0 → g.d = 0 ∧ g.y = 0 ∧ g.q = []
  y0 : 0 ≤ g.y
  y1 : g.y ≤ r.j.re
  ql : g.q.length ≤ 3
  ov : r.j.ov = 1 ∨ g.q = []
  ln : Line r.j (lnG g)
  td : (g.many = 0 ∧ g.n = r.num ∧ g.d = r.due ∧ g.y = r.try_) ∨ (g.many = 1 ∧ r.num = 0 ∧ g.n = fr ∧ g.tn = fr ∧ g.tm = r.j.name ∧ g.td = g.d ∧ g.y = 0 ∧ g.d ∈ L)
  mem : ∀ t ∈ lnG g, t ∈ lnG r.go3 ∨ t ∈ L

theorem Line_snoc {j : Job} {l : List Int} {t : Int} (h : Line j l) (ht : ofJ j t = true) (hl : ∀ s ∈ l, s < t) : Line j (l ++ [t]) := by
  refine ⟨fun s hs => ?_, List.pairwise_append.mpr ⟨h.2, List.pairwise_singleton _ _, fun a ha b hb => by simp at hb; subst hb; exact hl a ha⟩⟩
  rcases List.mem_append.mp hs with hs | hs
  · exact h.1 s hs
  · simp at hs; subst hs; exact ⟨of_may ht, ht⟩

theorem fi_take {r : Row} {fr : Int} {L : List Int} {g : Go3} {t : Int} (hfr : 0 < fr) (hre : 0 ≤ r.j.re) (F : FI r fr L g) (ht : ofJ r.j t = true) (hL : t ∈ L) (hlt : ∀ s ∈ lnG g, s < t) :
    FI r fr L (g.take r.j.ov r.j.name fr t) ∧ ∀ s ∈ lnG (g.take r.j.ov r.j.name fr t), s ∈ lnG g ∨ s = t := by
  unfold Go3.take
  by_cases hn : g.n = 0
  · obtain ⟨d0, y0, q0⟩ := F.z hn
    have hc : ((g.n == 0) && ((g.d == 0) && ((g.y == 0) && true))) = true := by simp [hn, d0, y0]
    rw [if_pos hc]
    have e : lnG { g with n := fr, d := t, y := 0, tn := fr, tm := r.j.name, td := t, many := 1 } = [t] := by
      unfold lnG; simp [hfr, q0]
    refine ⟨⟨by simp; omega, fun h => by simp at h; omega, by simp, by simp; exact hre, by simp [q0], .inr (by simp [q0]), ?_, .inr ⟨rfl, ?_, rfl, rfl, rfl, rfl, rfl, hL⟩, ?_⟩, ?_⟩
    · rw [e]; exact ⟨fun s hs => by simp at hs; subst hs; exact ⟨of_may ht, ht⟩, List.pairwise_singleton _ _⟩
    · rcases F.td with ⟨_, e1, _⟩ | ⟨_, e1, _⟩
      · rw [← e1]; exact hn
      · exact e1
    · intro s hs; rw [e] at hs; simp at hs; subst hs; exact .inr hL
    · intro s hs; rw [e] at hs; simp at hs; exact .inr hs
  · have hc : ((g.n == 0) && ((g.d == 0) && ((g.y == 0) && true))) = false := by simp [hn]
    rw [if_neg (by rw [hc]; simp)]
    by_cases ho : r.j.ov = 1 ∧ g.q.length < 3
    · rw [if_pos ho]
      have e : lnG { g with q := g.q ++ [t] } = lnG g ++ [t] := by unfold lnG; simp
      refine ⟨⟨F.n0, fun h => absurd h hn, F.y0, F.y1, by simp; omega, .inl ho.1, ?_, F.td, ?_⟩, ?_⟩
      · rw [e]; exact Line_snoc F.ln ht hlt
      · intro s hs; rw [e] at hs
        rcases List.mem_append.mp hs with hs | hs
        · exact F.mem s hs
        · simp at hs; subst hs; exact .inr hL
      · intro s hs; rw [e] at hs
        rcases List.mem_append.mp hs with hs | hs
        · exact .inl hs
        · simp at hs; exact .inr hs
    · rw [if_neg ho]
      exact ⟨F, fun s hs => .inl hs⟩

theorem fi_fold {r : Row} {fr : Int} {L0 : List Int} (hfr : 0 < fr) (hre : 0 ≤ r.j.re) : ∀ (L : List Int) (g : Go3), FI r fr L0 g → L.Pairwise (· < ·) → (∀ t ∈ L, ofJ r.j t = true ∧ t ∈ L0) → (∀ s ∈ lnG g, ∀ t ∈ L, s < t) → FI r fr L0 (L.foldl (Go3.take r.j.ov r.j.name fr) g)
  | [], g, F, _, _, _ => F
  | t :: L, g, F, hp, hL, hlt => by
    rw [List.foldl_cons]
    obtain ⟨h1, h2⟩ := hL t (by simp)
    obtain ⟨p1, p2⟩ := List.pairwise_cons.mp hp
    obtain ⟨F', hs⟩ := fi_take hfr hre F h1 h2 (fun s hs => hlt s hs t (by simp))
    refine fi_fold hfr hre L _ F' p2 (fun u hu => hL u (by simp [hu])) fun s k u hu => ?_
    rcases hs s k with k | rfl
    · exact hlt s k u (by simp [hu])
    · exact p1 u hu

/-- what was launched last -/
def Jn (r : Row) (last tries : Int) : Prop := (r.num ≠ 0 → last = r.due ∧ tries = r.try_) ∧ (r.num = 0 → r.nx = -1 ∨ last < r.nx)

/-- what is launched is as it has to be -/
def Ok1 (r next : Row) (told : List (Int × Int × Int × Int)) (last tries fr last' tries' : Int) : Prop :=
  (told = [] ∧ last' = last ∧ tries' = tries) ∨ (told = [(fr, r.j.name, last', tries')] ∧ next.num = fr ∧ next.due = last' ∧ next.try_ = tries' ∧ tries' ≤ r.j.re ∧ ((tries' = 0 ∧ last < last') ∨ (0 < tries' ∧ last' = last ∧ tries' = tries + 1 ∧ 0 ≤ tries ∧ tries ≤ 3)))

theorem go3_FI {r : Row} (h : r.in) (hok : r.ok = true) (fr : Int) (L : List Int) : FI r fr L r.go3 := by
  obtain ⟨k1, k2, k3, k4, k5, k6, k7, k8⟩ := row_iff.mp hok
  refine ⟨h.2.2, k6, k3, k4, k5, k7, ?_, .inl ⟨rfl, rfl, rfl, rfl⟩, fun t ht => .inl ht⟩
  rw [line_ln] at k8
  exact ⟨fun t ht => k8.1 t (List.mem_append_left _ ht), (List.pairwise_append.mp k8.2).1⟩

theorem step_spec {r : Row} (h : r.in) (hok : r.ok = true) {now fr : Int} (hm : mayT now = true) (hf : 0 < fr) {last tries : Int} (J : Jn r last tries) :
    ∃ (next : Row) (told : List (Int × Int × Int × Int)) (last' tries' : Int), stepL r now fr = (next.tup, told, 0) ∧ next.j = r.j ∧ next.pa = r.pa ∧ next.in ∧ next.ok = true ∧ (next.nx = -1 ∨ now < next.nx) ∧ Ok1 r next told last tries fr last' tries' ∧ Jn next last' tries' := by
  obtain ⟨k1, k2, k3, k4, k5, k6, k7, k8⟩ := row_iff.mp hok
  have hs : stepL r now fr = (({ r with nx := (occL r now).2, num := (stepG r now fr).n, due := (stepG r now fr).d, try_ := (stepG r now fr).y, q := (stepG r now fr).q } : Row).tup, (if (stepG r now fr).many = 0 then [] else [((stepG r now fr).tn, (stepG r now fr).tm, (stepG r now fr).td, 0)]), 0) := by
    unfold stepL; rw [if_pos ⟨hok, hm, by omega⟩]
  by_cases hx : r.nx = -1 ∨ r.nx > now
  · have eo : occL r now = ([], r.nx) := by unfold occL; rw [if_pos ⟨hok, hm⟩, if_pos hx]
    have eg : stepG r now fr = r.go3 := by unfold stepG; rw [eo]; rfl
    rw [eo, eg] at hs
    refine ⟨r, [], last, tries, hs, rfl, rfl, h, hok, ?_, .inl ⟨rfl, rfl, rfl⟩, J⟩
    rcases hx with e | e
    · exact .inl e
    · exact .inr e
  · have hx1 : r.nx ≠ -1 := fun e => hx (.inl e)
    have hx2 : ¬ r.nx > now := fun e => hx (.inr e)
    have eo : occL r now = (offL r now, nextT r.j now) := by unfold occL; rw [if_pos ⟨hok, hm⟩, if_neg hx]
    obtain ⟨o1, o2⟩ := off_told h.1 hok hm hx1 hx2
    have hline : ∀ s ∈ lnG r.go3, s < r.nx := by
      intro s hs
      rw [line_ln, if_neg hx1] at k8
      exact (List.pairwise_append.mp k8.2).2.2 s hs r.nx (by simp)
    have F := fi_fold (L0 := offL r now) hf (by omega) (offL r now) r.go3 (go3_FI h hok fr _) o2 (fun t ht => ⟨(o1 t ht).1, ht⟩) (fun s hs t ht => by have := hline s hs; have := (o1 t ht).2.1; omega)
    have eg : stepG r now fr = (offL r now).foldl (Go3.take r.j.ov r.j.name fr) r.go3 := by unfold stepG; rw [eo]
    rw [← eg] at F
    rw [eo] at hs
    generalize stepG r now fr = g at F hs
    have hle : ∀ s ∈ lnG g, s ≤ now := by
      intro s hs
      rcases F.mem s hs with e | e
      · have := hline s e; omega
      · exact (o1 s e).2.2
    have hnx : nextT r.j now = -1 ∨ (now < nextT r.j now ∧ ofJ r.j (nextT r.j now) = true) := by
      unfold nextT
      cases hfj : firstJ r.j now with
      | none => exact .inl rfl
      | some v => exact .inr ⟨firstJ_gt hfj, firstJ_is hfj⟩
    have hpa : r.pa = false := by
      cases hp : r.pa
      · rfl
      · exact absurd (k2 hp) hx1
    have hnok : ({ r with nx := nextT r.j now, num := g.n, due := g.d, try_ := g.y, q := g.q } : Row).ok = true := by
      refine row_iff.mpr ⟨k1, fun hp => (by rw [show r.pa = true from hp] at hpa; cases hpa), F.y0, F.y1, F.ql, F.z, F.ov, ?_⟩
      have el : ({ r with nx := nextT r.j now, num := g.n, due := g.d, try_ := g.y, q := g.q } : Row).line = lnG g ++ (if nextT r.j now = -1 then [] else [nextT r.j now]) := rfl
      rw [el]
      rcases hnx with e | ⟨e1, e2⟩
      · rw [if_pos e, List.append_nil]; exact F.ln
      · by_cases e : nextT r.j now = -1
        · rw [if_pos e, List.append_nil]; exact F.ln
        · rw [if_neg e]
          exact Line_snoc F.ln e2 (fun s hs => by have := hle s hs; omega)
    have hnin : ({ r with nx := nextT r.j now, num := g.n, due := g.d, try_ := g.y, q := g.q } : Row).in := ⟨h.1, by have := F.ql; show g.q.length ≤ 1000; omega, F.n0⟩
    have hnx' : nextT r.j now = -1 ∨ now < nextT r.j now := by
      rcases hnx with e | ⟨e, _⟩
      · exact .inl e
      · exact .inr e
    rcases F.td with ⟨m0, e1, e2, e3⟩ | ⟨m1, e0, e1, e2, e3, e4, e5, e6⟩
    · rw [if_pos m0] at hs
      refine ⟨_, [], last, tries, hs, rfl, rfl, hnin, hnok, hnx', .inl ⟨rfl, rfl, rfl⟩, fun hn => ?_, fun hn => ?_⟩
      · have hn' : r.num ≠ 0 := by rw [← e1]; exact hn
        have := J.1 hn'
        show last = g.d ∧ tries = g.y
        rw [e2, e3]; exact this
      · have hn' : r.num = 0 := by rw [← e1]; exact hn
        show nextT r.j now = -1 ∨ last < nextT r.j now
        rcases J.2 hn' with e | e
        · exact absurd e hx1
        · rcases hnx' with q | q
          · exact .inl q
          · exact .inr (by omega)
    · rw [if_neg (by omega), e2, e3, e4] at hs
      have hd := o1 g.d e6
      refine ⟨_, _, g.d, 0, hs, rfl, rfl, hnin, hnok, hnx', .inr ⟨rfl, e1, rfl, e5, by omega, .inl ⟨rfl, ?_⟩⟩, fun _ => ⟨rfl, e5.symm⟩, fun hn => ?_⟩
      · rcases J.2 e0 with e | e
        · exact absurd e hx1
        · omega
      · exfalso
        have : g.n = 0 := hn
        omega

theorem end_spec {r : Row} (h : r.in) (hok : r.ok = true) {fr : Int} (ok : Bool) (hn : r.num ≠ 0) (hf : 0 < fr) (hne : fr ≠ r.num) {last tries : Int} (J : Jn r last tries) :
    ∃ (next : Row) (told : List (Int × Int × Int × Int)) (gone : Bool) (last' tries' : Int), endL r r.num ok fr = (next.tup, told, gone, 0) ∧ next.j = r.j ∧ next.pa = r.pa ∧ next.in ∧ next.ok = true ∧ (gone = true → told = [] ∧ r.j.once = true ∧ next.num = 0) ∧ Ok1 r next told last tries fr last' tries' ∧ Jn next last' tries' := by
  obtain ⟨k1, k2, k3, k4, k5, k6, k7, k8⟩ := row_iff.mp hok
  obtain ⟨jl, jt⟩ := J.1 hn
  have hpos : r.num > 0 := by have := h.2.2; omega
  have h3 := (ok0_parts (good_ok0 k1)).2.2.1
  have el : r.line = r.due :: (r.q ++ (if r.nx = -1 then [] else [r.nx])) := by unfold Row.line; rw [if_pos hpos]; rfl
  rw [el] at k8
  have he : endL r r.num ok fr = if ok = false ∧ r.try_ < r.j.re then (({ r with num := fr, try_ := r.try_ + 1 } : Row).tup, [(fr, r.j.name, r.due, r.try_ + 1)], false, 0) else endQ r fr := by
    unfold endL
    rw [if_neg (by rw [hok]; simp; exact ⟨by omega, hne⟩), if_neg (by simp; exact hn)]
  by_cases hc : ok = false ∧ r.try_ < r.j.re
  · rw [if_pos hc] at he
    refine ⟨_, _, false, r.due, r.try_ + 1, he, rfl, rfl, ⟨h.1, h.2.1, by show 0 ≤ fr; omega⟩, ?_, fun e => (by cases e), .inr ⟨rfl, rfl, rfl, rfl, by omega, .inr ⟨by omega, jl.symm, by rw [jt], by omega, by omega⟩⟩, fun _ => ⟨rfl, rfl⟩, fun e => ?_⟩
    · refine row_iff.mpr ⟨k1, k2, by show 0 ≤ r.try_ + 1; omega, by show r.try_ + 1 ≤ r.j.re; omega, k5, fun e => (by exfalso; have : fr = 0 := e; omega), k7, ?_⟩
      have : ({ r with num := fr, try_ := r.try_ + 1 } : Row).line = r.due :: (r.q ++ (if r.nx = -1 then [] else [r.nx])) := by unfold Row.line; rw [if_pos hf]; rfl
      rw [this]; exact k8
    · exfalso; have : fr = 0 := e; omega
  · rw [if_neg hc] at he
    have tail : Line r.j (r.q ++ (if r.nx = -1 then [] else [r.nx])) := ⟨fun t ht => k8.1 t (List.mem_cons_of_mem _ ht), (List.pairwise_cons.mp k8.2).2⟩
    have above := (List.pairwise_cons.mp k8.2).1
    unfold endQ at he
    cases hq : r.q with
    | cons t q =>
      rw [hq] at he tail above k5 k7
      simp only at he
      refine ⟨_, _, false, t, 0, he, rfl, rfl, ⟨h.1, by simp at k5; show q.length ≤ 1000; omega, by show 0 ≤ fr; omega⟩, ?_, fun e => (by cases e), .inr ⟨rfl, rfl, rfl, rfl, by omega, .inl ⟨rfl, ?_⟩⟩, fun _ => ⟨rfl, rfl⟩, fun e => ?_⟩
      · refine row_iff.mpr ⟨k1, k2, by show (0 : Int) ≤ 0; omega, by show (0 : Int) ≤ r.j.re; omega, by simp at k5; show q.length ≤ 3; omega, fun e => (by exfalso; have : fr = 0 := e; omega), ?_, ?_⟩
        · rcases k7 with e | e
          · exact .inl e
          · cases e
        · have : ({ r with num := fr, due := t, try_ := 0, q := q } : Row).line = (t :: q) ++ (if r.nx = -1 then [] else [r.nx]) := by unfold Row.line; rw [if_pos hf]; rfl
          rw [this]; exact tail
      · have := above t (by simp); omega
      · exfalso; have : fr = 0 := e; omega
    | nil =>
      rw [hq] at he tail above
      simp only at he
      refine ⟨_, _, _, last, tries, he, rfl, rfl, ⟨h.1, by simp, by show (0 : Int) ≤ 0; omega⟩, ?_, fun e => ?_, .inl ⟨rfl, rfl, rfl⟩, fun e => absurd rfl e, fun _ => ?_⟩
      · refine row_iff.mpr ⟨k1, k2, by show (0 : Int) ≤ 0; omega, by show (0 : Int) ≤ r.j.re; omega, by simp, fun _ => ⟨rfl, rfl, rfl⟩, .inr rfl, ?_⟩
        have : ({ r with num := 0, due := 0, try_ := 0, q := [] } : Row).line = [] ++ (if r.nx = -1 then [] else [r.nx]) := by unfold Row.line; rw [if_neg (by show ¬ ((0 : Int) > 0); omega)]; rfl
        rw [this]; exact tail
      · simp only [Bool.and_eq_true] at e
        exact ⟨rfl, e.1, rfl⟩
      · show r.nx = -1 ∨ last < r.nx
        by_cases hx : r.nx = -1
        · exact .inl hx
        · refine .inr ?_
          have := above r.nx (by rw [if_neg hx]; simp)
          omega
end Go.Proofs.YtjmjfjhiggiglaaDoor
