/- DueRises: the plain law. -/
import Derived.Test.YtjmjfjhiggiglaaDoorJr
import Derived.Test.YtjmjfjhiggiglaaDoorJn
import Derived.Test.YtjmjfjhiggiglaaDoorJd
import Derived.Test.YtjmjfjhiggiglaaDoorJo
import Derived.Test.YtjmjfjhiggiglaaDoorGDueRises
namespace Go.Proofs.YtjmjfjhiggiglaaDoor
open Go Go.B Go.RowKit
set_option linter.unusedSimpArgs false
set_option linter.unusedVariables false
set_option linter.unusedSectionVars false
set_option maxRecDepth 20000

theorem bne_me (n : Int) : (n != n) = false := by simp

theorem told_loop {r next : Row} {told : List (Int × Int × Int × Int)} {last tries fr last' tries' now a b : Int} {acts : List (Int × Int × Int × Int × Bool × Bool)} (hre : 0 ≤ r.j.re) (ok : Ok1 r next told last tries fr last' tries') :
    ∃ k, curfewlaw13_DueRises_l0 k (r.j.name, r.j.once, r.j.c.mi, r.j.c.ho, r.j.c.da, r.j.c.mo, r.j.c.we, r.j.at_, r.j.ov, r.j.ca, r.j.re, r.pa, r.nx, r.num, r.due, r.try_, r.q,
      next.j.name, next.j.once, next.j.c.mi, next.j.c.ho, next.j.c.da, next.j.c.mo, next.j.c.we, next.j.at_, next.j.ov, next.j.ca, next.j.re, next.pa, next.nx, next.num, next.due, next.try_, next.q,
      last, tries, now, fr, acts, a, b, told, ((told.length : Nat) : Int), 0) (.inr (last', tries')) := by
  rcases ok with ⟨rfl, rfl, rfl⟩ | ⟨rfl, e1, e2, e3, e4, e5⟩
  · exact ⟨1, br_no rfl rfl⟩
  · have done : ∀ k, curfewlaw13_DueRises_l0 (k + 1) (r.j.name, r.j.once, r.j.c.mi, r.j.c.ho, r.j.c.da, r.j.c.mo, r.j.c.we, r.j.at_, r.j.ov, r.j.ca, r.j.re, r.pa, r.nx, r.num, r.due, r.try_, r.q,
      next.j.name, next.j.once, next.j.c.mi, next.j.c.ho, next.j.c.da, next.j.c.mo, next.j.c.we, next.j.at_, next.j.ov, next.j.ca, next.j.re, next.pa, next.nx, next.num, next.due, next.try_, next.q,
      last', tries', now, fr, acts, a, b, [(fr, r.j.name, last', tries')], 1, 1) (.inr (last', tries')) := fun k => br_no rfl rfl
    have same : (!((fr == next.num) && ((r.j.name == r.j.name) && ((last' == next.due) && ((tries' == next.try_) && true))))) = false := by simp [e1, e2, e3]
    refine ⟨2, br_yes rfl ⟨rfl, br_no (bne_me _) (br_no (bne_me _) (br_no same ?_))⟩⟩
    rcases e5 with ⟨t0, hl⟩ | ⟨t1, hl, ht, h0, h3⟩
    · subst t0
      exact br_yes rfl (br_no (no_of (by show ¬ last' ≤ last; omega)) (br_no rfl (br_no (no_of (by show ¬ (0 : Int) > r.j.re; omega)) (done 0))))
    · subst hl
      refine br_no (by show (tries' == 0) = false; simp; omega) (br_yes (yes_of t1) (br_no (bne_me _) (br_no ?_ (br_no (no_of (by show ¬ tries' > r.j.re; omega)) (done 0)))))
      show (tries' != IntKind.wrap .i64 (tries + 1)) = false
      rw [wi (x := tries + 1) (by omega) (by omega), ht]
      exact bne_me _

theorem rest_part {r next : Row} (hj : next.j = r.j) (hp : next.pa = r.pa) (hin : next.in) (hok : next.ok = true) {told : List (Int × Int × Int × Int)} (hl : told.length ≤ 1) {F X : Prop} (hx : X) :
    ∃ y : Int, table_CheckRow_R next.j.name next.j.once next.j.c.mi next.j.c.ho next.j.c.da next.j.c.mo next.j.c.we next.j.at_ next.j.ov next.j.ca next.j.re next.pa next.nx next.num next.due next.try_ next.q y ∧
      br (y != 0) F (br (decide ((((told.length) : Nat) : Int) > 1)) F (br (!((next.j.name == r.j.name) && ((next.j.once == r.j.once) && (((next.j.c.mi == r.j.c.mi) && ((next.j.c.ho == r.j.c.ho) && ((next.j.c.da == r.j.c.da) && ((next.j.c.mo == r.j.c.mo) && ((next.j.c.we == r.j.c.we) && true))))) && ((next.j.at_ == r.j.at_) && ((next.j.ov == r.j.ov) && ((next.j.ca == r.j.ca) && ((next.j.re == r.j.re) && true)))))))) F (br (!(next.pa == r.pa)) F X))) := by
  refine ⟨_, table_CheckRow_fn hin, ?_⟩
  rw [hok]
  exact br_no rfl (br_no (no_of (by omega)) (br_no (by rw [hj]; simp) (br_no (by rw [hp]; simp) hx)))

theorem rest_same {r : Row} (hin : r.in) (hok : r.ok = true) {F X : Prop} (hx : X) :
    ∃ y : Int, table_CheckRow_R r.j.name r.j.once r.j.c.mi r.j.c.ho r.j.c.da r.j.c.mo r.j.c.we r.j.at_ r.j.ov r.j.ca r.j.re r.pa r.nx r.num r.due r.try_ r.q y ∧
      br (y != 0) F (br (!((r.j.name == r.j.name) && ((r.j.once == r.j.once) && (((r.j.c.mi == r.j.c.mi) && ((r.j.c.ho == r.j.c.ho) && ((r.j.c.da == r.j.c.da) && ((r.j.c.mo == r.j.c.mo) && ((r.j.c.we == r.j.c.we) && true))))) && ((r.j.at_ == r.j.at_) && ((r.j.ov == r.j.ov) && ((r.j.ca == r.j.ca) && ((r.j.re == r.j.re) && true)))))))) F (br (!(r.pa == r.pa)) F X)) := by
  refine ⟨_, table_CheckRow_fn hin, ?_⟩
  rw [hok]
  exact br_no rfl (br_no (by simp) (br_no (by simp) hx))

theorem tmod_bd (x : Int) (h : 0 ≤ x) : 0 ≤ Int.tmod x 500000000 ∧ Int.tmod x 500000000 < 500000000 := by
  rw [Int.tmod_eq_emod_of_nonneg h]; omega

/-- the clock goes on -/
def nowN (now x : Int) : Int := if 253402300799 < (IntKind.wrap .i64 (now + (IntKind.wrap .i64 (Int.tmod (IntKind.wrap .u64 x) 500000000)))) then 253402300799 else (IntKind.wrap .i64 (now + (IntKind.wrap .i64 (Int.tmod (IntKind.wrap .u64 x) 500000000))))

theorem nowN_may {now x : Int} (hm : mayT now = true) : mayT (nowN now x) = true := by
  obtain ⟨m0, m1⟩ := mayT_true hm
  have hu : 0 ≤ IntKind.wrap .u64 x := by rw [wue]; omega
  obtain ⟨u0, u1⟩ := tmod_bd _ hu
  have w1 : IntKind.wrap .i64 (Int.tmod (IntKind.wrap .u64 x) 500000000) = Int.tmod (IntKind.wrap .u64 x) 500000000 := wi (by omega) (by omega)
  have w2 : IntKind.wrap .i64 (now + Int.tmod (IntKind.wrap .u64 x) 500000000) = now + Int.tmod (IntKind.wrap .u64 x) 500000000 := wi (by omega) (by omega)
  unfold nowN
  rw [w1, w2]
  split
  · decide
  · unfold mayT
    rw [yes_of (p := 0 ≤ now + Int.tmod (IntKind.wrap .u64 x) 500000000) (by omega), yes_of (p := now + Int.tmod (IntKind.wrap .u64 x) 500000000 ≤ 253402300799) (by omega)]; rfl

theorem ok1_len {r next : Row} {told : List (Int × Int × Int × Int)} {last tries fr last' tries' : Int} (ok : Ok1 r next told last tries fr last' tries') : told.length ≤ 1 := by
  rcases ok with ⟨rfl, _⟩ | ⟨rfl, _⟩ <;> simp

theorem rises_loop {l : List (Int × Int × Int × Int × Bool × Bool)} (hl : l.length ≤ 9223372036854775807) : ∀ (d i : Nat), i + d = 30 → i ≤ l.length → ∀ (r : Row) (last tries now fr : Int), r.in → r.ok = true → Jn r last tries → mayT now = true → 1099511627776 ≤ fr → fr ≤ 1099511627776 + 2 * (i : Int) →
    ∃ k, curfewlaw13_DueRises_l1 k (r.j.name, r.j.once, r.j.c.mi, r.j.c.ho, r.j.c.da, r.j.c.mo, r.j.c.we, r.j.at_, r.j.ov, r.j.ca, r.j.re, r.pa, r.nx, r.num, r.due, r.try_, r.q, last, tries, now, fr, l, ((l.length : Nat) : Int), (i : Int)) (.inl ()) := by
  intro d
  induction d with
  | zero =>
    intro i hi hle r last tries now fr _ _ _ _ _ _
    by_cases hlt : i < l.length
    · have e6 : i = 30 := by omega
      exact ⟨1, br_yes (yes_of (by omega)) ⟨ix_ok hlt, br_yes (by subst e6; rfl) rfl⟩⟩
    · exact ⟨1, br_no (no_of (by omega)) rfl⟩
  | succ d ih =>
    intro i hi hle r last tries now fr hin hok J hm f0 f1
    by_cases hlt : i < l.length
    rotate_left
    · exact ⟨1, br_no (no_of (by omega)) rfl⟩
    have n30 : ((i : Int) == 30) = false := by simp; omega
    have hre : 0 ≤ r.j.re := by have := row_iff.mp hok; omega
    have e1 : IntKind.wrap .u64 (fr + 1) = fr + 1 := wu (by omega) (by omega)
    have e2 : (IntKind.wrap .u64 (IntKind.wrap .u64 (fr + 1) + 1)) = fr + 2 := by rw [e1, wu (by omega) (by omega)]; omega
    by_cases hc : IntKind.wrap .u64 (fr + 1) = r.num
    · have hne : (IntKind.wrap .u64 (IntKind.wrap .u64 (fr + 1) + 1)) ≠ r.num := by omega
      by_cases hk : Int.tmod (IntKind.wrap .u64 (List.getD l i (0, (0, (0, (0, (false, false)))))).1) 3 < 2
      · obtain ⟨next, told, la, tr, hs, s1, s2, s3, s4, s5, s6, s7⟩ := step_spec hin hok (now := nowN now (List.getD l i (0, (0, (0, (0, (false, false)))))).2.1) (fr := (IntKind.wrap .u64 (IntKind.wrap .u64 (fr + 1) + 1))) (nowN_may hm) (by omega) J
        obtain ⟨k, hK⟩ := ih (i + 1) (by omega) (by omega) next la tr (nowN now (List.getD l i (0, (0, (0, (0, (false, false)))))).2.1) (IntKind.wrap .u64 (IntKind.wrap .u64 (fr + 1) + 1)) s3 s4 s7 (nowN_may hm) (by omega) (by omega)
        rw [← wi_succ (n := i) (by omega)] at hK
        have hS := due_Step_fn hin (nowN now (List.getD l i (0, (0, (0, (0, (false, false)))))).2.1) (IntKind.wrap .u64 (IntKind.wrap .u64 (fr + 1) + 1))
        rw [hs] at hS
        obtain ⟨k0, hk0⟩ := told_loop (now := nowN now (List.getD l i (0, (0, (0, (0, (false, false)))))).2.1) (a := ((l.length : Nat) : Int)) (b := (i : Int)) (acts := l) hre s6
        have tl := ok1_len s6
        refine ⟨k + 1, br_yes (yes_of (by omega)) ⟨ix_ok hlt, br_no n30 (br_yes (by simpa using hc) (br_yes (yes_of hk) ⟨_, hS, br_no rfl ?_⟩))⟩⟩
        refine br_intro (fun e => br_no ?_ (rest_part s1 s2 s3 s4 tl ⟨_, ⟨k0, hk0⟩, hK⟩)) (fun e => rest_part s1 s2 s3 s4 tl ⟨_, ⟨k0, hk0⟩, hK⟩)
        refine no_of ?_
        show ¬ next.nx ≤ nowN now (List.getD l i (0, (0, (0, (0, (false, false)))))).2.1
        rcases s5 with q | q
        · exfalso
          have e' : (next.nx != -1) = true := e
          rw [q] at e'
          cases e'
        · omega
      · by_cases hz : r.num = 0
        · obtain ⟨k, hK⟩ := ih (i + 1) (by omega) (by omega) r last tries now (IntKind.wrap .u64 (IntKind.wrap .u64 (fr + 1) + 1)) hin hok J hm (by omega) (by omega)
          rw [← wi_succ (n := i) (by omega)] at hK
          obtain ⟨k0, hk0⟩ := told_loop (r := r) (next := r) (told := []) (last := last) (tries := tries) (fr := (IntKind.wrap .u64 (IntKind.wrap .u64 (fr + 1) + 1))) (now := now) (a := ((l.length : Nat) : Int)) (b := (i : Int)) (acts := l) hre (.inl ⟨rfl, rfl, rfl⟩)
          exact ⟨k + 1, br_yes (yes_of (by omega)) ⟨ix_ok hlt, br_no n30 (br_yes (by simpa using hc) (br_no (no_of hk) (br_no (no_of (by omega)) (rest_same hin hok ⟨_, ⟨k0, hk0⟩, hK⟩))))⟩⟩
        · obtain ⟨next, told, gone, la, tr, he, s1, s2, s3, s4, s5, s6, s7⟩ := end_spec hin hok (fr := (IntKind.wrap .u64 (IntKind.wrap .u64 (fr + 1) + 1))) (List.getD l i (0, (0, (0, (0, (false, false)))))).2.2.2.2.2 hz (by omega) hne J
          obtain ⟨k, hK⟩ := ih (i + 1) (by omega) (by omega) next la tr now (IntKind.wrap .u64 (IntKind.wrap .u64 (fr + 1) + 1)) s3 s4 s7 hm (by omega) (by omega)
          rw [← wi_succ (n := i) (by omega)] at hK
          have hE := due_End_fn hin r.num (List.getD l i (0, (0, (0, (0, (false, false)))))).2.2.2.2.2 (IntKind.wrap .u64 (IntKind.wrap .u64 (fr + 1) + 1))
          rw [he] at hE
          obtain ⟨k0, hk0⟩ := told_loop (now := now) (a := ((l.length : Nat) : Int)) (b := (i : Int)) (acts := l) hre s6
          have tl := ok1_len s6
          have n0 := hin.2.2
          refine ⟨k + 1, br_yes (yes_of (by omega)) ⟨ix_ok hlt, br_no n30 (br_yes (by simpa using hc) (br_no (no_of hk) (br_yes (yes_of (by omega)) ⟨_, hE, br_no rfl ?_⟩)))⟩⟩
          cases hg : gone
          · exact br_no rfl (rest_part s1 s2 s3 s4 tl ⟨_, ⟨k0, hk0⟩, hK⟩)
          · obtain ⟨g1, g2, g3⟩ := s5 hg
            refine br_yes rfl (br_no ?_ (br_no ?_ (br_no ?_ (rest_part s1 s2 s3 s4 tl ⟨_, ⟨k0, hk0⟩, hK⟩))))
            · rw [g1]; rfl
            · show (!r.j.once) = false
              rw [g2]; rfl
            · refine no_of ?_
              show ¬ next.num > 0
              omega
    have hne : (IntKind.wrap .u64 (fr + 1)) ≠ r.num := hc
    by_cases hk : Int.tmod (IntKind.wrap .u64 (List.getD l i (0, (0, (0, (0, (false, false)))))).1) 3 < 2
    · obtain ⟨next, told, la, tr, hs, s1, s2, s3, s4, s5, s6, s7⟩ := step_spec hin hok (now := nowN now (List.getD l i (0, (0, (0, (0, (false, false)))))).2.1) (fr := (IntKind.wrap .u64 (fr + 1))) (nowN_may hm) (by omega) J
      obtain ⟨k, hK⟩ := ih (i + 1) (by omega) (by omega) next la tr (nowN now (List.getD l i (0, (0, (0, (0, (false, false)))))).2.1) (IntKind.wrap .u64 (fr + 1)) s3 s4 s7 (nowN_may hm) (by omega) (by omega)
      rw [← wi_succ (n := i) (by omega)] at hK
      have hS := due_Step_fn hin (nowN now (List.getD l i (0, (0, (0, (0, (false, false)))))).2.1) (IntKind.wrap .u64 (fr + 1))
      rw [hs] at hS
      obtain ⟨k0, hk0⟩ := told_loop (now := nowN now (List.getD l i (0, (0, (0, (0, (false, false)))))).2.1) (a := ((l.length : Nat) : Int)) (b := (i : Int)) (acts := l) hre s6
      have tl := ok1_len s6
      refine ⟨k + 1, br_yes (yes_of (by omega)) ⟨ix_ok hlt, br_no n30 (br_no (by simpa using hc) (br_yes (yes_of hk) ⟨_, hS, br_no rfl ?_⟩))⟩⟩
      refine br_intro (fun e => br_no ?_ (rest_part s1 s2 s3 s4 tl ⟨_, ⟨k0, hk0⟩, hK⟩)) (fun e => rest_part s1 s2 s3 s4 tl ⟨_, ⟨k0, hk0⟩, hK⟩)
      refine no_of ?_
      show ¬ next.nx ≤ nowN now (List.getD l i (0, (0, (0, (0, (false, false)))))).2.1
      rcases s5 with q | q
      · exfalso
        have e' : (next.nx != -1) = true := e
        rw [q] at e'
        cases e'
      · omega
    · by_cases hz : r.num = 0
      · obtain ⟨k, hK⟩ := ih (i + 1) (by omega) (by omega) r last tries now (IntKind.wrap .u64 (fr + 1)) hin hok J hm (by omega) (by omega)
        rw [← wi_succ (n := i) (by omega)] at hK
        obtain ⟨k0, hk0⟩ := told_loop (r := r) (next := r) (told := []) (last := last) (tries := tries) (fr := (IntKind.wrap .u64 (fr + 1))) (now := now) (a := ((l.length : Nat) : Int)) (b := (i : Int)) (acts := l) hre (.inl ⟨rfl, rfl, rfl⟩)
        exact ⟨k + 1, br_yes (yes_of (by omega)) ⟨ix_ok hlt, br_no n30 (br_no (by simpa using hc) (br_no (no_of hk) (br_no (no_of (by omega)) (rest_same hin hok ⟨_, ⟨k0, hk0⟩, hK⟩))))⟩⟩
      · obtain ⟨next, told, gone, la, tr, he, s1, s2, s3, s4, s5, s6, s7⟩ := end_spec hin hok (fr := (IntKind.wrap .u64 (fr + 1))) (List.getD l i (0, (0, (0, (0, (false, false)))))).2.2.2.2.2 hz (by omega) hne J
        obtain ⟨k, hK⟩ := ih (i + 1) (by omega) (by omega) next la tr now (IntKind.wrap .u64 (fr + 1)) s3 s4 s7 hm (by omega) (by omega)
        rw [← wi_succ (n := i) (by omega)] at hK
        have hE := due_End_fn hin r.num (List.getD l i (0, (0, (0, (0, (false, false)))))).2.2.2.2.2 (IntKind.wrap .u64 (fr + 1))
        rw [he] at hE
        obtain ⟨k0, hk0⟩ := told_loop (now := now) (a := ((l.length : Nat) : Int)) (b := (i : Int)) (acts := l) hre s6
        have tl := ok1_len s6
        have n0 := hin.2.2
        refine ⟨k + 1, br_yes (yes_of (by omega)) ⟨ix_ok hlt, br_no n30 (br_no (by simpa using hc) (br_no (no_of hk) (br_yes (yes_of (by omega)) ⟨_, hE, br_no rfl ?_⟩)))⟩⟩
        cases hg : gone
        · exact br_no rfl (rest_part s1 s2 s3 s4 tl ⟨_, ⟨k0, hk0⟩, hK⟩)
        · obtain ⟨g1, g2, g3⟩ := s5 hg
          refine br_yes rfl (br_no ?_ (br_no ?_ (br_no ?_ (rest_part s1 s2 s3 s4 tl ⟨_, ⟨k0, hk0⟩, hK⟩))))
          · rw [g1]; rfl
          · show (!r.j.once) = false
            rw [g2]; rfl
          · refine no_of ?_
            show ¬ next.num > 0
            omega

theorem rises_law {r0 : Row} (hj : r0.j.in) (hn : 0 ≤ r0.num) {l : List (Int × Int × Int × Int × Bool × Bool)} (hl : l.length ≤ 9223372036854775807) :
    curfewlaw13_DueRises_R r0.j.name r0.j.once r0.j.c.mi r0.j.c.ho r0.j.c.da r0.j.c.mo r0.j.c.we r0.j.at_ r0.j.ov r0.j.ca r0.j.re r0.pa r0.nx r0.num r0.due r0.try_ r0.q l true := by
  obtain ⟨r, hr⟩ : ∃ r : Row, r = { r0 with q := r0.q.take 5 } := ⟨_, rfl⟩
  have h : r.in := by rw [hr]; exact ⟨hj, by simp; omega, hn⟩
  have own := own_fn (r := r0)
  rw [← hr] at own
  refine ⟨_, wakes13, br_no rfl ⟨_, own, _, table_CheckRow_fn h, ?_⟩⟩
  cases hok : r.ok
  · have hS := due_Step_fn h 0 1
    have hs : stepL r 0 1 = (noRow, [], 230) := by unfold stepL; rw [if_neg (by rw [hok]; simp)]
    rw [hs] at hS
    exact br_yes rfl ⟨_, hS, br_yes rfl rfl⟩
  · refine br_no rfl ?_
    obtain ⟨k1, k2, k3, k4, k5, k6, k7, k8⟩ := row_iff.mp hok
    by_cases hz : r.num = 0
    · have J : Jn r (-1) 0 := ⟨fun e => absurd hz e, fun _ => by
        by_cases hx : r.nx = -1
        · exact .inl hx
        · exact .inr (by have := mayT_true (line_next hok hx).1; omega)⟩
      obtain ⟨k, hk⟩ := rises_loop hl 30 0 (by omega) (by omega) r (-1) 0 0 1099511627776 h hok J (by decide) (by omega) (by omega)
      exact br_no (no_of (by show ¬ r.num > 0; omega)) ⟨_, ⟨k, hk⟩, rfl⟩
    · have J : Jn r r.due r.try_ := ⟨fun _ => ⟨rfl, rfl⟩, fun e => absurd e hz⟩
      obtain ⟨k, hk⟩ := rises_loop hl 30 0 (by omega) (by omega) r r.due r.try_ 0 1099511627776 h hok J (by decide) (by omega) (by omega)
      exact br_yes (yes_of (by show r.num > 0; have := h.2.2; omega)) ⟨_, ⟨k, hk⟩, rfl⟩

abbrev actTy : Ty := .pr (.int .i64) (.pr (.int .i64) (.pr (.int .u64) (.pr (.int .u64) (.pr .bool .bool))))

theorem law_DueRises (x : rowTy.den) (h : inT rowTy x) (l : List actTy.den) (hl : inT (.sl actTy) l) :
    curfewlaw13_DueRises_R x.1.1 x.1.2.1 x.1.2.2.1.1 x.1.2.2.1.2.1 x.1.2.2.1.2.2.1 x.1.2.2.1.2.2.2.1 x.1.2.2.1.2.2.2.2 x.1.2.2.2.1 x.1.2.2.2.2.1 x.1.2.2.2.2.2.1 x.1.2.2.2.2.2.2 x.2.1 x.2.2.1 x.2.2.2.1.1 x.2.2.2.1.2.1 x.2.2.2.1.2.2 x.2.2.2.2 l true :=
  rises_law (r0 := rowOf x) (rowOf_in h).1 (rowOf_in h).2 (len_le hl.1)
end Go.Proofs.YtjmjfjhiggiglaaDoor
