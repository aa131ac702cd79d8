/- Walks of package times: the text of a time, told digit by digit into a struct behind a pointer. -/
import Derived.Test.YtkhmkenankdakabDoorTimC
import Derived.Deep.RegionLaw
import Derived.Deep.AppendLies
import Derived.Lib.AppendStr
namespace Go.Proofs.YtkhmkenankdakabDoor
open Go Go.RowKit
set_option linter.unusedSimpArgs false
set_option linter.unusedVariables false

/-- bytes as cells -/
def bcells (l : List UInt8) : List Value := l.map fun b => Value.int .u8 b.toNat

theorem bcells_append (l k : List UInt8) : bcells (l ++ k) = bcells l ++ bcells k := by simp [bcells]

theorem bcells_length (l : List UInt8) : (bcells l).length = l.length := by simp [bcells]

theorem Tryd.infoU8 : (Tryd.prog.info? 5).map (fun i => (i.zero, i.size, i.bytes)) = some (some (.int .u8 0), 1, 1) := by kernel_rfl

/-- the struct behind T holds a text of its own -/
def TxtAt (w : World) (T : Nat) (l : List UInt8) : Prop :=
  ∃ v, w.cell? ⟨T, 6, none⟩ = some v ∧ w.frozen? ⟨T, 6, none⟩ = false ∧ T < w.heap.size ∧ w.ownsRow (T + 1) 5 1 v l.length (bcells l)

/-- below T all is as it was, and the civil time stays -/
def TKeep (T : Nat) (w w' : World) : Prop := Below T w w' ∧ ∀ j, j < 6 → w'.cell? ⟨T, j, none⟩ = w.cell? ⟨T, j, none⟩

theorem TKeep.refl (T : Nat) (w : World) : TKeep T w w := ⟨Below.refl _ _, fun _ _ => rfl⟩

theorem TKeep.trans {T : Nat} {a b c : World} (h : TKeep T a b) (k : TKeep T b c) : TKeep T a c := ⟨h.1.trans k.1, fun j hj => (k.2 j hj).trans (h.2 j hj)⟩

def NumS (w : World) (T : Nat) (l : List UInt8) (x : World) : Prop := TKeep T w x ∧ TxtAt x T l

theorem own_later {x : World} {b e n : Nat} {v : Value} {xs : List Value} (h : x.ownsRow b e 1 v n xs) (o : Obj) : (x.drew.alloc o).ownsRow b e 1 v n xs := by
  obtain ⟨h1, h2⟩ := h
  refine ⟨h1, ?_⟩
  rcases h2 with h2 | ⟨g, cap, cur, hv, hg, hh, r⟩
  · exact Or.inl h2
  · refine Or.inr ⟨g, cap, cur, hv, hg, ?_, r⟩
    have hlt : g < x.heap.size := (Array.getElem?_eq_some_iff.mp hh).1
    show (x.heap.push o)[g]? = _
    rw [Array.getElem?_push, if_neg (by omega)]; exact hh

theorem own_ne {x : World} {T e n : Nat} {v : Value} {xs : List Value} (h : x.ownsRow (T + 1) e 1 v n xs) : some T ≠ v.ownBlock := by
  obtain ⟨_, h2⟩ := h
  rcases h2 with ⟨rfl, _⟩ | ⟨g, cap, cur, rfl, hg, _⟩
  · simp [Value.ownBlock]
  · simp [Value.ownBlock]; omega

theorem below_alloc (x : World) (o : Obj) : Below x.heap.size x (x.drew.alloc o) := by
  refine ⟨rfl, rfl, rfl, by show x.heap.size ≤ (x.heap.push o).size; simp, fun k hk => ?_⟩
  show (x.heap.push o)[k]? = _
  rw [Array.getElem?_push, if_neg (by omega)]

theorem grown_block {x y w : World} {T e n : Nat} {v : Value} {xs : List Value} (h : x.ownsRow (T + 1) e 1 v n xs) (B : Below x.heap.size x y) (g : y.grownBy w v.ownBlock) {k : Nat} (hk : k ≤ T) (hT : T < x.heap.size) : w.heap[k]? = x.heap[k]? := by
  have hs := B.size
  rw [← B.block k (by omega)]
  refine g.block k (by omega) ?_
  obtain ⟨_, h2⟩ := h
  rcases h2 with ⟨rfl, _⟩ | ⟨g, cap, cur, rfl, hg, _⟩
  · simp [Value.ownBlock]
  · intro hh
    simp [Value.ownBlock] at hh
    omega

theorem far_cell {x y w : World} {T e n j : Nat} {v u : Value} {xs : List Value} (h : x.ownsRow (T + 1) e 1 v n xs) (B : Below x.heap.size x y) (g : y.grownBy w v.ownBlock) (c : x.cell? ⟨T, j, none⟩ = some u) (hT : T < x.heap.size) : w.cell? ⟨T, j, none⟩ = some u := by
  rw [← c]
  exact World.cell?_of_block (grown_block h B g (Nat.le_refl _) hT)

theorem far_frozen {x y w : World} {T e n j : Nat} {v : Value} {xs : List Value} {b : Bool} (h : x.ownsRow (T + 1) e 1 v n xs) (B : Below x.heap.size x y) (g : y.grownBy w v.ownBlock) (c : x.frozen? ⟨T, j, none⟩ = b) (hT : T < x.heap.size) : w.frozen? ⟨T, j, none⟩ = b := by
  rw [← c]
  exact World.frozen?_of_block (grown_block h B g (Nat.le_refl _) hT)

theorem num_step {w wr y w9 : World} {T e m m' : Nat} {v v9 : Value} {xs ys : List Value} {l' : List UInt8} (K1 : TKeep T w wr) (hT : T < wr.heap.size) (own : wr.ownsRow (T + 1) e 1 v m xs)
    (B : Below wr.heap.size wr y) (gr : y.grownBy w9 v.ownBlock) (own9 : w9.ownsRow (T + 1) 5 1 v9 m' ys) (c9 : w9.cell? ⟨T, 6, none⟩ = some v) (f9 : w9.frozen? ⟨T, 6, none⟩ = false) (hm : m' = l'.length) (hy : ys = bcells l') :
    NumS w T l' (w9.setCell ⟨T, 6, none⟩ v9) := by
  subst hm; subst hy
  have hs0 := B.size
  have hs : wr.heap.size ≤ w9.heap.size := Nat.le_trans hs0 gr.size
  have hbel : Below T wr w9 := ⟨gr.os.trans B.os, gr.tape.trans B.tape, gr.output.trans B.output, hs, fun k hk => grown_block own B gr (by omega) hT⟩
  refine ⟨K1.trans ⟨hbel.setCell (Nat.le_refl _) _, fun j hj => ?_⟩, v9, ?_, ?_, ?_, ownsRow_setCell_below own9 (by simp) _⟩
  · rw [World.cell?_setCell_other _ _ _ _ (by intro h; have := congrArg Addr.off h; simp at this; omega)]
    exact World.cell?_of_block (grown_block own B gr (Nat.le_refl _) hT)
  · exact World.cell?_setCell_same _ _ _ c9
  · simpa using f9
  · simp; omega

theorem own_pos {w : World} {b e n : Nat} {v : Value} {xs : List Value} (h : w.ownsRow b e 1 v n xs) (hn : 0 < n) : ∃ g cap, v = .slice (some ⟨g, 0, none⟩) n cap := by
  obtain ⟨_, h2⟩ := h
  rcases h2 with ⟨_, h⟩ | ⟨g, cap, cur, hv, _⟩
  · omega
  · exact ⟨g, cap, hv⟩

/-- a digit's byte -/
def dg (n : Int) : UInt8 := UInt8.ofNat (48 + n).toNat

/-- the units, the greatest first -/
def unit (D k : Nat) : Int := if D = 2 then [10, 1, 0].getD k 0 else [1000, 100, 10, 1, 0].getD k 0

/-- the first k digits of D -/
def digs (n : Int) (D k : Nat) : List UInt8 := (List.range k).map fun i => dg (n / unit D i % 10)

theorem digs_succ (n : Int) (D k : Nat) : digs n D (k + 1) = digs n D k ++ [dg (n / unit D k % 10)] := by simp [digs, List.range_succ]

theorem digs_length (n : Int) (D k : Nat) : (digs n D k).length = k := by simp [digs]

theorem unit_succ {D k : Nat} (hD : D = 2 ∨ D = 4) (hk : k < D) : unit D (k + 1) = unit D k / 10 ∧ 1 ≤ unit D k ∧ unit D k ≤ 1000 := by
  rcases hD with rfl | rfl
  · have : k = 0 ∨ k = 1 := by omega
    rcases this with rfl | rfl <;> decide
  · have : k = 0 ∨ k = 1 ∨ k = 2 ∨ k = 3 := by omega
    rcases this with rfl | rfl | rfl | rfl <;> decide

theorem unit_end {D : Nat} (hD : D = 2 ∨ D = 4) : unit D D = 0 := by rcases hD with rfl | rfl <;> decide

theorem dg_val {d : Int} (h0 : 0 ≤ d) (h1 : d ≤ 9) : Value.int .u8 (48 + d) = Value.int .u8 ((dg d).toNat : Int) := by
  have e : ((dg d).toNat : Int) = 48 + d := by
    unfold dg
    simp only [UInt8.toNat_ofNat']
    omega
  rw [e]

set_option maxHeartbeats 2000000 in
set_option maxRecDepth 100000 in
theorem number4 (T : Nat) (n : Int) (l : List UInt8) (s : ByteArray) (w : World) (hn0 : 0 ≤ n) (hn1 : n ≤ 9999) (hl : l.length ≤ 1000) (hs : s.size ≤ 1000) (ht : TxtAt w T l) :
    Calls Tryd.prog 48 #[.pointer (some ⟨T, 0, none⟩), .int .i64 n, .int .i64 4, .string s] w fun e w' => e = .returned (.tuple #[]) ∧ NumS w T (l ++ digs n 4 4 ++ s.data.toList) w' := by
  obtain ⟨i0, hi, hz0, hz1, hz2⟩ := info_parts Tryd.infoU8
  go_enter Tryd.func48, Tryd.ntmps48
  go_wp2
  refine wp_loop_unroll 5 (Unr.step ?_)
  go_wp2
  refine Unr.step ?_
  go_wp2
  refine Unr.step ?_
  go_wp2
  refine Unr.step ?_
  go_wp2
  go_loopw [8] (fun u x => ∃ k : Nat, k ≤ 4 ∧ u = .int .i64 (unit 4 k) ∧ NumS w T (l ++ digs n 4 k) x) (fun u _ => (intOf u).toNat)
  case atStart => exact ⟨0, by omega, rfl, TKeep.refl _ _, by simpa [digs] using ht⟩
  case round =>
    obtain ⟨k, hk, rfl, K1, v, c6, f6, hT, own⟩ := hrel
    have own' := own
    rw [List.length_append, digs_length] at own'
    have OWN := Lib.hid own'
    clear own own'
    by_cases hlt : k < 4
    · obtain ⟨us, u1, u2⟩ := unit_succ (D := 4) (k := k) (by decide) hlt
      have US := Lib.hid us
      clear us
      obtain ⟨u, hu⟩ : ∃ u, unit 4 k = u := ⟨_, rfl⟩
      rw [hu] at u1 u2
      rw [hu]
      have HU := Lib.hid hu
      clear hu
      obtain ⟨q, hq⟩ : ∃ q, n / u = q := ⟨_, rfl⟩
      have q0 : 0 ≤ q := by rw [← hq]; exact Int.ediv_nonneg hn0 (by omega)
      have q1 : q ≤ 9999 := by
        rw [← hq]
        have := Int.ediv_le_self u hn0
        omega
      have e1 : IntKind.i64.wrap (n.tdiv u) = q := by rw [IntKind.wrap_i64, Int.tdiv_eq_ediv_of_nonneg hn0, hq]; omega
      obtain ⟨d, hd⟩ : ∃ d, q % 10 = d := ⟨_, rfl⟩
      have d0 : 0 ≤ d ∧ d ≤ 9 := by omega
      obtain ⟨d0, d1⟩ := d0
      have e2 : q.tmod 10 = d := by rw [Int.tmod_eq_emod_of_nonneg q0, hd]
      have e3 : IntKind.i64.wrap (48 + d) = 48 + d := by rw [IntKind.wrap_i64]; omega
      have e4 : IntKind.u8.wrap (48 + d) = 48 + d := by simp [IntKind.wrap, IntKind.signed, IntKind.bits]; omega
      have une : u ≠ 0 := by omega
      have HQ := Lib.hid hq
      have HD := Lib.hid hd
      clear hq hd
      have hT1 : T < wr.heap.size + 1 := by omega
      go_wp2
      go_region_law ((refine step_append_lies _ rfl (.tmp 24) (.tmp 31) 63 rfl (T + 1) 5 i0 (.int .u8 0) 1 1 Tryd.underlying63 hi hz0 hz1 hz2 rfl (by decide) v (l.length + k) (bcells (l ++ digs n 4 k)) rfl (own_later OWN.out _) ⟨wr.heap.size, 0, none⟩ 1 1 [.int .u8 (48 + d)] rfl rfl (World.news_of_block (new_block _ _)) (by simp [Value.oneCell']) (by decide) (by unfold maxLen; omega) (by omega) (by simp; omega) (wr.heap.size + 1) (by simp) ?_; intro g cap w9 own9 gr9 hg9 hlt9; have c9 : w9.cell? ⟨T, 6, none⟩ = some v := far_cell OWN.out (below_alloc _ _) gr9 c6 hT; have f9 : w9.frozen? ⟨T, 6, none⟩ = false := far_frozen OWN.out (below_alloc _ _) gr9 f6 hT))
      all_goals go_wp2
      all_goals exact ⟨⟨k + 1, by omega, by rw [US.out, HU.out], num_step K1 hT OWN.out (below_alloc _ _) gr9 own9 c9 f9 (by simp [digs_length]; omega) (by rw [digs_succ, ← List.append_assoc, bcells_append (l ++ digs n 4 k), HU.out, HQ.out, HD.out]; simp only [bcells, List.map_cons, List.map_nil]; rw [dg_val d0 d1])⟩, by simp [intOf]; omega⟩
    · obtain rfl : k = 4 := by omega
      rw [unit_end (by decide)]
      go_wp2_with (at_builtin; refine Lib.wpList_append_own_string _ rfl (.tmp 39) (.tmp 40) 63 9 rfl (T + 1) 5 i0 Tryd.underlying63 Tryd.underlying9 hi hz0 hz1 hz2 v (l.length + 4) (bcells (l ++ digs n 4 4)) rfl OWN.out s rfl ?c1 ?c2 ?c3 ?_)
      case c1 => unfold maxLen; omega
      case c2 => omega
      case c3 => omega
      intro v' w9 own9 gr9 _
      have c9 : w9.cell? ⟨T, 6, none⟩ = some v := far_cell OWN.out (Below.refl _ _) gr9 c6 hT
      have f9 : w9.frozen? ⟨T, 6, none⟩ = false := far_frozen OWN.out (Below.refl _ _) gr9 f6 hT
      obtain ⟨g, cap, rfl⟩ := own_pos own9 (by omega)
      go_wp2
      go_end0
      exact ⟨rfl, num_step (l' := l ++ digs n 4 4 ++ s.data.toList) K1 hT OWN.out (Below.refl _ _) gr9 own9 c9 f9 (by rw [List.length_append, List.length_append, digs_length, Array.length_toList]; rfl) (by rw [bcells_append (l ++ digs n 4 4)]; rfl)⟩

set_option maxHeartbeats 2000000 in
set_option maxRecDepth 100000 in
theorem number2 (T : Nat) (n : Int) (l : List UInt8) (s : ByteArray) (w : World) (hn0 : 0 ≤ n) (hn1 : n ≤ 9999) (hl : l.length ≤ 1000) (hs : s.size ≤ 1000) (ht : TxtAt w T l) :
    Calls Tryd.prog 48 #[.pointer (some ⟨T, 0, none⟩), .int .i64 n, .int .i64 2, .string s] w fun e w' => e = .returned (.tuple #[]) ∧ NumS w T (l ++ digs n 2 2 ++ s.data.toList) w' := by
  obtain ⟨i0, hi, hz0, hz1, hz2⟩ := info_parts Tryd.infoU8
  go_enter Tryd.func48, Tryd.ntmps48
  go_wp2
  refine wp_loop_unroll 3 (Unr.step ?_)
  go_wp2
  refine Unr.step ?_
  go_wp2
  go_loopw [8] (fun u x => ∃ k : Nat, k ≤ 2 ∧ u = .int .i64 (unit 2 k) ∧ NumS w T (l ++ digs n 2 k) x) (fun u _ => (intOf u).toNat)
  case atStart => exact ⟨0, by omega, rfl, TKeep.refl _ _, by simpa [digs] using ht⟩
  case round =>
    obtain ⟨k, hk, rfl, K1, v, c6, f6, hT, own⟩ := hrel
    have own' := own
    rw [List.length_append, digs_length] at own'
    have OWN := Lib.hid own'
    clear own own'
    by_cases hlt : k < 2
    · obtain ⟨us, u1, u2⟩ := unit_succ (D := 2) (k := k) (by decide) hlt
      have US := Lib.hid us
      clear us
      obtain ⟨u, hu⟩ : ∃ u, unit 2 k = u := ⟨_, rfl⟩
      rw [hu] at u1 u2
      rw [hu]
      have HU := Lib.hid hu
      clear hu
      obtain ⟨q, hq⟩ : ∃ q, n / u = q := ⟨_, rfl⟩
      have q0 : 0 ≤ q := by rw [← hq]; exact Int.ediv_nonneg hn0 (by omega)
      have q1 : q ≤ 9999 := by
        rw [← hq]
        have := Int.ediv_le_self u hn0
        omega
      have e1 : IntKind.i64.wrap (n.tdiv u) = q := by rw [IntKind.wrap_i64, Int.tdiv_eq_ediv_of_nonneg hn0, hq]; omega
      obtain ⟨d, hd⟩ : ∃ d, q % 10 = d := ⟨_, rfl⟩
      have d0 : 0 ≤ d ∧ d ≤ 9 := by omega
      obtain ⟨d0, d1⟩ := d0
      have e2 : q.tmod 10 = d := by rw [Int.tmod_eq_emod_of_nonneg q0, hd]
      have e3 : IntKind.i64.wrap (48 + d) = 48 + d := by rw [IntKind.wrap_i64]; omega
      have e4 : IntKind.u8.wrap (48 + d) = 48 + d := by simp [IntKind.wrap, IntKind.signed, IntKind.bits]; omega
      have une : u ≠ 0 := by omega
      have HQ := Lib.hid hq
      have HD := Lib.hid hd
      clear hq hd
      have hT1 : T < wr.heap.size + 1 := by omega
      go_wp2
      go_region_law ((refine step_append_lies _ rfl (.tmp 24) (.tmp 31) 63 rfl (T + 1) 5 i0 (.int .u8 0) 1 1 Tryd.underlying63 hi hz0 hz1 hz2 rfl (by decide) v (l.length + k) (bcells (l ++ digs n 2 k)) rfl (own_later OWN.out _) ⟨wr.heap.size, 0, none⟩ 1 1 [.int .u8 (48 + d)] rfl rfl (World.news_of_block (new_block _ _)) (by simp [Value.oneCell']) (by decide) (by unfold maxLen; omega) (by omega) (by simp; omega) (wr.heap.size + 1) (by simp) ?_; intro g cap w9 own9 gr9 hg9 hlt9; have c9 : w9.cell? ⟨T, 6, none⟩ = some v := far_cell OWN.out (below_alloc _ _) gr9 c6 hT; have f9 : w9.frozen? ⟨T, 6, none⟩ = false := far_frozen OWN.out (below_alloc _ _) gr9 f6 hT))
      all_goals go_wp2
      all_goals exact ⟨⟨k + 1, by omega, by rw [US.out, HU.out], num_step K1 hT OWN.out (below_alloc _ _) gr9 own9 c9 f9 (by simp [digs_length]; omega) (by rw [digs_succ, ← List.append_assoc, bcells_append (l ++ digs n 2 k), HU.out, HQ.out, HD.out]; simp only [bcells, List.map_cons, List.map_nil]; rw [dg_val d0 d1])⟩, by simp [intOf]; omega⟩
    · obtain rfl : k = 2 := by omega
      rw [unit_end (by decide)]
      go_wp2_with (at_builtin; refine Lib.wpList_append_own_string _ rfl (.tmp 39) (.tmp 40) 63 9 rfl (T + 1) 5 i0 Tryd.underlying63 Tryd.underlying9 hi hz0 hz1 hz2 v (l.length + 2) (bcells (l ++ digs n 2 2)) rfl OWN.out s rfl ?c1 ?c2 ?c3 ?_)
      case c1 => unfold maxLen; omega
      case c2 => omega
      case c3 => omega
      intro v' w9 own9 gr9 _
      have c9 : w9.cell? ⟨T, 6, none⟩ = some v := far_cell OWN.out (Below.refl _ _) gr9 c6 hT
      have f9 : w9.frozen? ⟨T, 6, none⟩ = false := far_frozen OWN.out (Below.refl _ _) gr9 f6 hT
      obtain ⟨g, cap, rfl⟩ := own_pos own9 (by omega)
      go_wp2
      go_end0
      exact ⟨rfl, num_step (l' := l ++ digs n 2 2 ++ s.data.toList) K1 hT OWN.out (Below.refl _ _) gr9 own9 c9 f9 (by rw [List.length_append, List.length_append, digs_length, Array.length_toList]; rfl) (by rw [bcells_append (l ++ digs n 2 2)]; rfl)⟩
