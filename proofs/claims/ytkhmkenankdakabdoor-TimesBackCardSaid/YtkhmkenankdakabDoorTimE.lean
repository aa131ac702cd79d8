/- Walks of package times: a time's text. -/
import Derived.Test.YtkhmkenankdakabDoorTimD
import Derived.Laws.IdiomStrings
namespace Go.Proofs.YtkhmkenankdakabDoor
open Go Go.RowKit
set_option linter.unusedSimpArgs false
set_option linter.unusedVariables false

set_option maxHeartbeats 1000000 in
theorem toldYear (T : Nat) (n : Int) (l : List UInt8) (w : World) (hn0 : 0 ≤ n) (hn1 : n ≤ 9999) (hl : l.length ≤ 100) (hc : w.cell? ⟨T, 0, none⟩ = some (.int .i64 n)) (ht : TxtAt w T l) :
    Calls Tryd.prog 31 #[.pointer (some ⟨T, 0, none⟩)] w fun e w' => e = .returned (.tuple #[]) ∧ NumS w T (l ++ digs n 4 4 ++ [45]) w' := by
  have H := Lib.hid ht
  clear ht
  go_enter Tryd.func31, Tryd.ntmps31
  go_wp2_with ((go_at_call 48; (with_reducible refine (number4 T n l ⟨#[45]⟩ _ hn0 hn1 (by omega) (by decide) H.out).mono ?_); rintro e w1 ⟨rfl, k⟩))
  go_end0
  exact ⟨rfl, k⟩

set_option maxHeartbeats 1000000 in
theorem toldMonth (T : Nat) (n : Int) (l : List UInt8) (w : World) (hn0 : 0 ≤ n) (hn1 : n ≤ 9999) (hl : l.length ≤ 100) (hc : w.cell? ⟨T, 1, none⟩ = some (.int .i64 n)) (ht : TxtAt w T l) :
    Calls Tryd.prog 32 #[.pointer (some ⟨T, 0, none⟩)] w fun e w' => e = .returned (.tuple #[]) ∧ NumS w T (l ++ digs n 2 2 ++ [45]) w' := by
  have H := Lib.hid ht
  clear ht
  go_enter Tryd.func32, Tryd.ntmps32
  go_wp2_with ((go_at_call 48; (with_reducible refine (number2 T n l ⟨#[45]⟩ _ hn0 hn1 (by omega) (by decide) H.out).mono ?_); rintro e w1 ⟨rfl, k⟩))
  go_end0
  exact ⟨rfl, k⟩

set_option maxHeartbeats 1000000 in
theorem toldDay (T : Nat) (n : Int) (l : List UInt8) (w : World) (hn0 : 0 ≤ n) (hn1 : n ≤ 9999) (hl : l.length ≤ 100) (hc : w.cell? ⟨T, 2, none⟩ = some (.int .i64 n)) (ht : TxtAt w T l) :
    Calls Tryd.prog 33 #[.pointer (some ⟨T, 0, none⟩)] w fun e w' => e = .returned (.tuple #[]) ∧ NumS w T (l ++ digs n 2 2 ++ [32]) w' := by
  have H := Lib.hid ht
  clear ht
  go_enter Tryd.func33, Tryd.ntmps33
  go_wp2_with ((go_at_call 48; (with_reducible refine (number2 T n l ⟨#[32]⟩ _ hn0 hn1 (by omega) (by decide) H.out).mono ?_); rintro e w1 ⟨rfl, k⟩))
  go_end0
  exact ⟨rfl, k⟩

set_option maxHeartbeats 1000000 in
theorem toldHour (T : Nat) (n : Int) (l : List UInt8) (w : World) (hn0 : 0 ≤ n) (hn1 : n ≤ 9999) (hl : l.length ≤ 100) (hc : w.cell? ⟨T, 3, none⟩ = some (.int .i64 n)) (ht : TxtAt w T l) :
    Calls Tryd.prog 34 #[.pointer (some ⟨T, 0, none⟩)] w fun e w' => e = .returned (.tuple #[]) ∧ NumS w T (l ++ digs n 2 2 ++ [58]) w' := by
  have H := Lib.hid ht
  clear ht
  go_enter Tryd.func34, Tryd.ntmps34
  go_wp2_with ((go_at_call 48; (with_reducible refine (number2 T n l ⟨#[58]⟩ _ hn0 hn1 (by omega) (by decide) H.out).mono ?_); rintro e w1 ⟨rfl, k⟩))
  go_end0
  exact ⟨rfl, k⟩

set_option maxHeartbeats 1000000 in
theorem toldMinute (T : Nat) (n : Int) (l : List UInt8) (w : World) (hn0 : 0 ≤ n) (hn1 : n ≤ 9999) (hl : l.length ≤ 100) (hc : w.cell? ⟨T, 4, none⟩ = some (.int .i64 n)) (ht : TxtAt w T l) :
    Calls Tryd.prog 35 #[.pointer (some ⟨T, 0, none⟩)] w fun e w' => e = .returned (.tuple #[]) ∧ NumS w T (l ++ digs n 2 2 ++ [58]) w' := by
  have H := Lib.hid ht
  clear ht
  go_enter Tryd.func35, Tryd.ntmps35
  go_wp2_with ((go_at_call 48; (with_reducible refine (number2 T n l ⟨#[58]⟩ _ hn0 hn1 (by omega) (by decide) H.out).mono ?_); rintro e w1 ⟨rfl, k⟩))
  go_end0
  exact ⟨rfl, k⟩

set_option maxHeartbeats 1000000 in
theorem toldSecond (T : Nat) (n : Int) (l : List UInt8) (w : World) (hn0 : 0 ≤ n) (hn1 : n ≤ 9999) (hl : l.length ≤ 100) (hc : w.cell? ⟨T, 5, none⟩ = some (.int .i64 n)) (ht : TxtAt w T l) :
    Calls Tryd.prog 36 #[.pointer (some ⟨T, 0, none⟩)] w fun e w' => e = .returned (.tuple #[]) ∧ NumS w T (l ++ digs n 2 2 ++ []) w' := by
  have H := Lib.hid ht
  clear ht
  go_enter Tryd.func36, Tryd.ntmps36
  go_wp2_with ((go_at_call 48; (with_reducible refine (number2 T n l ⟨#[]⟩ _ hn0 hn1 (by omega) (by decide) H.out).mono ?_); rintro e w1 ⟨rfl, k⟩))
  go_end0
  exact ⟨rfl, k⟩

/-- the text of a civil time -/
def txtC (y m d a b c : Int) : List UInt8 :=
  [] ++ digs y 4 4 ++ [45] ++ digs m 2 2 ++ [45] ++ digs d 2 2 ++ [32] ++ digs a 2 2 ++ [58] ++ digs b 2 2 ++ [58] ++ digs c 2 2 ++ []

/-- the struct that is told: the civil time stays, the text grows -/
structure Told (w : World) (T : Nat) (y m d a b c : Int) (l : List UInt8) (x : World) : Prop where
  ext : Ext w x
  at' : w.heap.size ≤ T
  c0 : x.cell? ⟨T, 0, none⟩ = some (.int .i64 y)
  c1 : x.cell? ⟨T, 1, none⟩ = some (.int .i64 m)
  c2 : x.cell? ⟨T, 2, none⟩ = some (.int .i64 d)
  c3 : x.cell? ⟨T, 3, none⟩ = some (.int .i64 a)
  c4 : x.cell? ⟨T, 4, none⟩ = some (.int .i64 b)
  c5 : x.cell? ⟨T, 5, none⟩ = some (.int .i64 c)
  txt : TxtAt x T l

theorem Told.next {w : World} {T : Nat} {y m d a b c : Int} {l l' : List UInt8} {x x' : World} (h : Told w T y m d a b c l x) (k : NumS x T l' x') : Told w T y m d a b c l' x' :=
  ⟨.mk (h.ext.1.trans (k.1.1.mono h.at')), h.at', (k.1.2 0 (by omega)).trans h.c0, (k.1.2 1 (by omega)).trans h.c1, (k.1.2 2 (by omega)).trans h.c2, (k.1.2 3 (by omega)).trans h.c3, (k.1.2 4 (by omega)).trans h.c4, (k.1.2 5 (by omega)).trans h.c5, k.2⟩

set_option maxHeartbeats 2000000 in
set_option maxRecDepth 100000 in
theorem text_yes (t y m d : Int) (w : World) (h : timeB t = true) (e : Cal.dat (t / 86400) = (y, m, d)) :
    Calls Tryd.prog 10 #[.int .i64 t] w fun e w' => e = .returned (.tuple #[.string ⟨(txtC y m d (t % 86400 / 3600) (t % 3600 / 60) (t % 60)).toArray⟩, .int .i64 0]) ∧ Ext w w' := by
  obtain ⟨h1, h2⟩ := timeB_true h
  have O := Lib.hid e
  have H := Lib.hid h
  clear e h
  have hok := (Cal.dat_ok _ (dayB_true (time_day H.out)).1 (dayB_true (time_day H.out)).2).1
  rw [O.out] at hok
  have hmo := Cal.okd_month hok
  rw [Cal.okd_iff] at hok
  have hlo := (Cal.long_bd y m).2
  simp only [] at hok hmo
  obtain ⟨a, ha⟩ : ∃ a, t % 86400 / 3600 = a := ⟨_, rfl⟩
  obtain ⟨b, hb⟩ : ∃ b, t % 3600 / 60 = b := ⟨_, rfl⟩
  obtain ⟨c, hc⟩ : ∃ c, t % 60 = c := ⟨_, rfl⟩
  have C := Lib.hid (show ∀ w, Calls Tryd.prog 16 #[.int .i64 t] w fun e w' => e = .returned (.tuple #[.agg #[.int .i64 y, .int .i64 m, .int .i64 d, .int .i64 a, .int .i64 b, .int .i64 c], .int .i64 0]) ∧ Ext w w' by
    intro w; rw [← ha, ← hb, ← hc]; exact cvAt_yes t y m d w H.out O.out)
  rw [ha, hb, hc]
  have bds : 0 ≤ y ∧ y ≤ 9999 ∧ 0 ≤ m ∧ m ≤ 9999 ∧ 0 ≤ d ∧ d ≤ 9999 ∧ 0 ≤ a ∧ a ≤ 9999 ∧ 0 ≤ b ∧ b ≤ 9999 ∧ 0 ≤ c ∧ c ≤ 9999 := by omega
  clear hok hmo hlo
  go_enter Tryd.func10, Tryd.ntmps10
  go_wp2_with ((go_at_call 16; (with_reducible refine (C.out _).mono ?_); rintro e w1 ⟨rfl, E1⟩; have hc1 := E1.2.1; have hf1 := E1.2.2; have hz1 := E1.size; have ht1 := E1.sizes; (try simp [Nat.add_one_le_iff] at hz1); (try have hy1 := Nat.le_of_lt hz1)))
  obtain ⟨T, hT⟩ : ∃ T, w1.heap.size + 1 = T := ⟨_, rfl⟩
  simp only [hT]
  have hz1 := hz1
  obtain ⟨n1, n2, n3, n4, n5, n6, n7, n8, n9, n10, n11, n12⟩ := bds
  have ix0 : ∀ w : World, (Instr.index 66 (.agg #[.func (.func 31) #[.pointer (some ⟨T, 0, none⟩)] #[], .func (.func 32) #[.pointer (some ⟨T, 0, none⟩)] #[], .func (.func 33) #[.pointer (some ⟨T, 0, none⟩)] #[], .func (.func 34) #[.pointer (some ⟨T, 0, none⟩)] #[], .func (.func 35) #[.pointer (some ⟨T, 0, none⟩)] #[], .func (.func 36) #[.pointer (some ⟨T, 0, none⟩)] #[]]) (.int .i64 0)).run Tryd.prog w = .ok (.func (.func 31) #[.pointer (some ⟨T, 0, none⟩)] #[]) w := fun _ => by kernel_rfl
  have ix1 : ∀ w : World, (Instr.index 66 (.agg #[.func (.func 31) #[.pointer (some ⟨T, 0, none⟩)] #[], .func (.func 32) #[.pointer (some ⟨T, 0, none⟩)] #[], .func (.func 33) #[.pointer (some ⟨T, 0, none⟩)] #[], .func (.func 34) #[.pointer (some ⟨T, 0, none⟩)] #[], .func (.func 35) #[.pointer (some ⟨T, 0, none⟩)] #[], .func (.func 36) #[.pointer (some ⟨T, 0, none⟩)] #[]]) (.int .i64 1)).run Tryd.prog w = .ok (.func (.func 32) #[.pointer (some ⟨T, 0, none⟩)] #[]) w := fun _ => by kernel_rfl
  have ix2 : ∀ w : World, (Instr.index 66 (.agg #[.func (.func 31) #[.pointer (some ⟨T, 0, none⟩)] #[], .func (.func 32) #[.pointer (some ⟨T, 0, none⟩)] #[], .func (.func 33) #[.pointer (some ⟨T, 0, none⟩)] #[], .func (.func 34) #[.pointer (some ⟨T, 0, none⟩)] #[], .func (.func 35) #[.pointer (some ⟨T, 0, none⟩)] #[], .func (.func 36) #[.pointer (some ⟨T, 0, none⟩)] #[]]) (.int .i64 2)).run Tryd.prog w = .ok (.func (.func 33) #[.pointer (some ⟨T, 0, none⟩)] #[]) w := fun _ => by kernel_rfl
  have ix3 : ∀ w : World, (Instr.index 66 (.agg #[.func (.func 31) #[.pointer (some ⟨T, 0, none⟩)] #[], .func (.func 32) #[.pointer (some ⟨T, 0, none⟩)] #[], .func (.func 33) #[.pointer (some ⟨T, 0, none⟩)] #[], .func (.func 34) #[.pointer (some ⟨T, 0, none⟩)] #[], .func (.func 35) #[.pointer (some ⟨T, 0, none⟩)] #[], .func (.func 36) #[.pointer (some ⟨T, 0, none⟩)] #[]]) (.int .i64 3)).run Tryd.prog w = .ok (.func (.func 34) #[.pointer (some ⟨T, 0, none⟩)] #[]) w := fun _ => by kernel_rfl
  have ix4 : ∀ w : World, (Instr.index 66 (.agg #[.func (.func 31) #[.pointer (some ⟨T, 0, none⟩)] #[], .func (.func 32) #[.pointer (some ⟨T, 0, none⟩)] #[], .func (.func 33) #[.pointer (some ⟨T, 0, none⟩)] #[], .func (.func 34) #[.pointer (some ⟨T, 0, none⟩)] #[], .func (.func 35) #[.pointer (some ⟨T, 0, none⟩)] #[], .func (.func 36) #[.pointer (some ⟨T, 0, none⟩)] #[]]) (.int .i64 4)).run Tryd.prog w = .ok (.func (.func 35) #[.pointer (some ⟨T, 0, none⟩)] #[]) w := fun _ => by kernel_rfl
  have ix5 : ∀ w : World, (Instr.index 66 (.agg #[.func (.func 31) #[.pointer (some ⟨T, 0, none⟩)] #[], .func (.func 32) #[.pointer (some ⟨T, 0, none⟩)] #[], .func (.func 33) #[.pointer (some ⟨T, 0, none⟩)] #[], .func (.func 34) #[.pointer (some ⟨T, 0, none⟩)] #[], .func (.func 35) #[.pointer (some ⟨T, 0, none⟩)] #[], .func (.func 36) #[.pointer (some ⟨T, 0, none⟩)] #[]]) (.int .i64 5)).run Tryd.prog w = .ok (.func (.func 36) #[.pointer (some ⟨T, 0, none⟩)] #[]) w := fun _ => by kernel_rfl
  refine wp_forget (fun x => Told w T y m d a b c [] x) ?_ ?_
  · refine ⟨by (repeat (first | with_reducible exact Ext.refl _ | with_reducible assumption | exact Ext.mk (by with_reducible assumption) | with_reducible refine Ext.alloc ?_ _ | with_reducible refine Ext.drewN ?_ _ | with_reducible refine Ext.drew ?_ | with_reducible refine Ext.setCell ?_ (by first | (simp; done) | assumption | (simp; omega)) _ | (with_reducible refine Ext.trans ?_ (by with_reducible assumption)))), by omega, ?_, ?_, ?_, ?_, ?_, ?_, .slice none 0 0, ?_, ?_, ?_, ⟨rfl, Or.inl ⟨rfl, rfl⟩⟩⟩
    all_goals (subst hT; simp)
  clear hT
  intro x0 R0
  refine wp_loop_unroll 7 ?_
  refine Unr.step ?_
  go_wp2_with (go_at_call 31; refine (toldYear T _ _ _ (by omega) (by omega) (by simp [digs_length]) R0.c0 R0.txt).mono ?_; rintro e x1 ⟨rfl, k⟩; have R1 := R0.next k; clear k)
  refine Unr.step ?_
  go_wp2_with (go_at_call 32; refine (toldMonth T _ _ _ (by omega) (by omega) (by simp [digs_length]) R1.c1 R1.txt).mono ?_; rintro e x2 ⟨rfl, k⟩; have R2 := R1.next k; clear k)
  refine Unr.step ?_
  go_wp2_with (go_at_call 33; refine (toldDay T _ _ _ (by omega) (by omega) (by simp [digs_length]) R2.c2 R2.txt).mono ?_; rintro e x3 ⟨rfl, k⟩; have R3 := R2.next k; clear k)
  refine Unr.step ?_
  go_wp2_with (go_at_call 34; refine (toldHour T _ _ _ (by omega) (by omega) (by simp [digs_length]) R3.c3 R3.txt).mono ?_; rintro e x4 ⟨rfl, k⟩; have R4 := R3.next k; clear k)
  refine Unr.step ?_
  go_wp2_with (go_at_call 35; refine (toldMinute T _ _ _ (by omega) (by omega) (by simp [digs_length]) R4.c4 R4.txt).mono ?_; rintro e x5 ⟨rfl, k⟩; have R5 := R4.next k; clear k)
  refine Unr.step ?_
  go_wp2_with (go_at_call 36; refine (toldSecond T _ _ _ (by omega) (by omega) (by simp [digs_length]) R5.c5 R5.txt).mono ?_; rintro e x6 ⟨rfl, k⟩; have R6 := R5.next k; clear k)
  refine Unr.step ?_
  clear ix0 ix1 ix2 ix3 ix4 ix5
  have R : Told w T y m d a b c (txtC y m d a b c) x6 := R6
  have hlen : (txtC y m d a b c).length = 19 := rfl
  obtain ⟨v, v6, f6, hT, own⟩ := R.txt
  obtain ⟨g, cap, rfl⟩ := own_pos own (by omega)
  obtain ⟨L, hL⟩ : ∃ L, txtC y m d a b c = L := ⟨_, rfl⟩
  rw [hL] at own v6 hlen
  have hL' := Lib.hid hL
  have cells := World.ownsRow.cells own (g := g) rfl
  have cv := run_convert_bytes_back (P := Tryd.prog) x6 63 9 5 ⟨g, 0, none⟩ cap L Tryd.underlying63 Tryd.underlying5 Tryd.underlying9 (fun j hj => cells j _ (by simp [bcells, List.getElem?_eq_getElem hj]))
  rw [hlen] at cv v6
  clear own cells hlen hL
  go_wp2
  go_ret2
  exact ⟨by rw [hL'.out]; rfl, R.ext⟩

theorem text_no (t : Int) (w : World) (h : timeB t = false) :
    Calls Tryd.prog 10 #[.int .i64 t] w fun e w' => e = .returned (.tuple #[.string ⟨#[]⟩, .int .i64 2]) ∧ Ext w w' := by
  have H := Lib.hid h
  clear h
  go_enter Tryd.func10, Tryd.ntmps10
  go_wp2_with ((go_at_call 16; (with_reducible refine (cvAt_no _ _ H.out).mono ?_); rintro e w1 ⟨rfl, E1⟩; have hc1 := E1.2.1; have hf1 := E1.2.2; have hz1 := E1.size; have ht1 := E1.sizes; (try simp [Nat.add_one_le_iff] at hz1); (try have hy1 := Nat.le_of_lt hz1)))
  go_ret2
  refine ⟨rfl, ?_⟩
  (repeat (first | with_reducible exact Ext.refl _ | with_reducible assumption | exact Ext.mk (by with_reducible assumption) | with_reducible refine Ext.alloc ?_ _ | with_reducible refine Ext.drewN ?_ _ | with_reducible refine Ext.drew ?_ | with_reducible refine Ext.setCell ?_ (by first | (simp; done) | assumption | (simp; omega)) _ | (with_reducible refine Ext.trans ?_ (by with_reducible assumption))))
end Go.Proofs.YtkhmkenankdakabDoor
