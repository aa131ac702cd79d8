/- times.Parse, walked. -/
import Derived.Test.YtkhmkenankdakabDoorTimN
namespace Go.Proofs.YtkhmkenankdakabDoor
open Go Go.RowKit
set_option linter.unusedSimpArgs false
set_option linter.unusedVariables false

/-- a time's text, digits as noughts -/
def form : List UInt8 := [48, 48, 48, 48, 45, 48, 48, 45, 48, 48, 32, 48, 48, 58, 48, 48, 58, 48, 48]

/-- how many marks stand ahead of place i -/
def kk (i : Nat) : Nat := [0, 0, 0, 0, 0, 1, 1, 1, 2, 2, 2, 3, 3, 3, 4, 4, 4, 5, 5, 5].getD i 0

/-- byte i fits the form -/
def okAt (l : List UInt8) (i : Nat) : Bool := if form.getD i 0 = 48 then decide (48 ≤ (l.getD i 0).toNat ∧ (l.getD i 0).toNat ≤ 57) else l.getD i 0 == form.getD i 0

/-- the first i bytes fit the form -/
def pat (l : List UInt8) : Nat → Bool
  | 0 => true
  | i + 1 => pat l i && okAt l i

/-- number j of the first i bytes -/
def nm (l : List UInt8) : Nat → Nat → Int
  | 0, _ => 0
  | i + 1, j => if form.getD i 0 = 48 ∧ kk i = j then 10 * nm l i j + ((l.getD i 0).toNat - 48) else nm l i j

def bdn : Nat → Nat → Int
  | 0, _ => 0
  | i + 1, j => if form.getD i 0 = 48 ∧ kk i = j then 10 * bdn i j + 9 else bdn i j

theorem nm_bd (l : List UInt8) : ∀ (i j : Nat), pat l i = true → 0 ≤ nm l i j ∧ nm l i j ≤ bdn i j
  | 0, j, _ => ⟨Int.le_refl _, Int.le_refl _⟩
  | i + 1, j, h => by
    have h' : (pat l i && okAt l i) = true := h
    simp only [Bool.and_eq_true] at h'
    obtain ⟨h1, h2⟩ := h'
    have k := nm_bd l i j h1
    unfold nm bdn
    by_cases g : form.getD i 0 = 48 ∧ kk i = j
    · rw [if_pos g, if_pos g]
      unfold okAt at h2
      rw [if_pos g.1] at h2
      have := of_decide_eq_true h2
      omega
    · rw [if_neg g, if_neg g]; exact k

theorem bdn_bd : ∀ i, i < 20 → ∀ j, j < 6 → bdn i j ≤ 9999 := by decide +kernel

theorem nm_le {l : List UInt8} {i j : Nat} (h : pat l i = true) (hi : i ≤ 19) (hj : j < 6) : 0 ≤ nm l i j ∧ nm l i j ≤ 9999 := by
  have a := nm_bd l i j h
  have b := bdn_bd i (by omega) j hj
  omega

theorem kk_lt : ∀ i, i < 20 → kk i < 6 := by decide +kernel

theorem kk_succ : ∀ i, i < 19 → kk (i + 1) = if form.getD i 0 = 48 then kk i else kk i + 1 := by decide +kernel

theorem form_bd : ∀ i, i < 19 → form.getD i 0 = 48 ∨ form.getD i 0 = 45 ∨ form.getD i 0 = 32 ∨ form.getD i 0 = 58 := by decide +kernel

/-- the array of numbers at B -/
structure Nums (w : World) (B : Nat) (l : List UInt8) (i : Nat) (x : World) : Prop where
  ext : Ext w x
  at' : w.heap.size ≤ B
  cell : ∀ j, j < 6 → x.cell? ⟨B, j, none⟩ = some (.int .i64 (nm l i j))
  free : ∀ j, j < 6 → x.frozen? ⟨B, j, none⟩ = false

theorem Nums.drew {w : World} {B : Nat} {l : List UInt8} {i : Nat} {x : World} (h : Nums w B l i x) (n : Nat) : Nums w B l i (x.drewN n) :=
  ⟨h.ext.drewN n, h.at', h.cell, h.free⟩

theorem Nums.digit {w : World} {B : Nat} {l : List UInt8} {i : Nat} {x : World} (h : Nums w B l i x) (hi : i < 19) (f : form.getD i 0 = 48) :
    Nums w B l (i + 1) (x.setCell ⟨B, kk i, none⟩ (.int .i64 (10 * nm l i (kk i) + ((l.getD i 0).toNat - 48)))) := by
  refine ⟨h.ext.setCell h.at' _, h.at', fun j hj => ?_, fun j hj => by simpa using h.free j hj⟩
  by_cases e : j = kk i
  · subst e
    rw [World.cell?_setCell_same _ _ _ (h.cell _ hj)]
    unfold nm; rw [if_pos ⟨f, rfl⟩]
    cases i <;> rfl
  · rw [World.cell?_setCell_other _ _ _ _ (by intro k; have := congrArg Addr.off k; simp at this; omega), h.cell j hj]
    conv => rhs; unfold nm
    rw [if_neg (by intro k; exact e k.2.symm)]

theorem Nums.drew1 {w : World} {B : Nat} {l : List UInt8} {i : Nat} {x : World} (h : Nums w B l i x) : Nums w B l i x.drew :=
  ⟨h.ext.drew, h.at', h.cell, h.free⟩

theorem Nums.mark {w : World} {B : Nat} {l : List UInt8} {i : Nat} {x : World} (h : Nums w B l i x) (f : form.getD i 0 ≠ 48) : Nums w B l (i + 1) x := by
  refine ⟨h.ext, h.at', fun j hj => ?_, h.free⟩
  rw [h.cell j hj]
  conv => rhs; unfold nm
  rw [if_neg (fun k => f k.1)]

theorem idx_str {P : Program} {t : TypeId} (h : P.underlying t = some .string) (s : ByteArray) (n : Nat) (hn : n < s.size) {v : Int} (hv : ((s.data.toList.getD n 0).toNat : Int) = v) (w : World) :
    (Instr.index t (.string s) (.int .i64 n)).run P w = .ok (.int .u8 v) w := by
  rw [run_index_string w t s .i64 n h, dif_pos ⟨by omega, by omega⟩]
  have hn' : n < s.data.size := hn
  have e : s[(n : Int).toNat]'(by simpa using hn) = s.data.toList.getD n 0 := by
    show s.data[n] = _
    simp [List.getD_eq_getElem?_getD, Array.getElem?_eq_getElem hn']
  rw [e, hv]

theorem pat_bad {l : List UInt8} {n : Nat} (h : okAt l n = false) : ∀ k, pat l (n + 1 + k) = false
  | 0 => by show (pat l n && okAt l n) = false; rw [h]; simp
  | k + 1 => by show (pat l (n + 1 + k) && okAt l (n + 1 + k)) = false; rw [pat_bad h k]; rfl

theorem pat_bad19 {l : List UInt8} {n : Nat} (h : okAt l n = false) (hn : n < 19) : pat l 19 = false := by
  have := pat_bad h (18 - n)
  rw [show n + 1 + (18 - n) = 19 by omega] at this
  exact this

theorem at_tim {y m d a b c : Int} (h : okc y m d a b c = true) (w : World) : Calls Tryd.prog 16 #[.int .i64 (tim y m d a b c)] w fun e w' => e = .returned (.tuple #[.agg #[.int .i64 y, .int .i64 m, .int .i64 d, .int .i64 a, .int .i64 b, .int .i64 c], .int .i64 0]) ∧ Ext w w' := by
  obtain ⟨d1, d2⟩ := tim_day h
  obtain ⟨h1, h2, h3⟩ := tim_hms h
  obtain ⟨b1, b2⟩ := tim_bd h
  have k := cvAt_yes (tim y m d a b c) y m d w (by simp [timeB]; omega) (by rw [d1]; exact Cal.dat_num (okc_true h).1)
  have e2 : tim y m d a b c % 3600 / 60 = b := by omega
  have e3 : tim y m d a b c % 60 = c := by omega
  rw [h1, e2, e3] at k
  exact k

set_option maxHeartbeats 4000000 in
set_option maxRecDepth 100000 in
theorem parse_any (s : ByteArray) (w : World) (hL : DaysLaid w) (hs : s.size ≤ maxLen) :
    Calls Tryd.prog 27 #[.string s] w fun e w' => (if s.size = 19 ∧ pat s.data.toList 19 = true ∧ okc (nm s.data.toList 19 0) (nm s.data.toList 19 1) (nm s.data.toList 19 2) (nm s.data.toList 19 3) (nm s.data.toList 19 4) (nm s.data.toList 19 5) = true
      then e = .returned (.tuple #[.int .i64 (tim (nm s.data.toList 19 0) (nm s.data.toList 19 1) (nm s.data.toList 19 2) (nm s.data.toList 19 3) (nm s.data.toList 19 4) (nm s.data.toList 19 5)), .int .i64 0]) else e = .returned (.tuple #[.int .i64 0, .int .i64 151])) ∧ Ext w w' := by
  unfold maxLen at hs
  by_cases h19 : s.size = 19
  · have hs9 : ((s.size : Int) == 19) = true := by simp; omega
    go_enter Tryd.func27, Tryd.ntmps27
    go_wp2_with fail
    go_step3
    go_wp2_with fail
    go_step3
    go_wp2_with fail
    obtain ⟨B, hB⟩ : ∃ B, w.heap.size = B := ⟨_, rfl⟩
    obtain ⟨l, hl⟩ : ∃ l, s.data.toList = l := ⟨_, rfl⟩
    simp only [hB]
    refine wp_forget (fun x => Nums w B l 0 x ∧ B < x.heap.size) ?_ ?_
    · subst hB
      refine ⟨⟨by (repeat (first | with_reducible exact Ext.refl _ | with_reducible assumption | exact Ext.mk (by with_reducible assumption) | with_reducible refine Ext.alloc ?_ _ | with_reducible refine Ext.drewN ?_ _ | with_reducible refine Ext.drew ?_ | with_reducible refine Ext.setCell ?_ (by first | (simp; done) | assumption | (simp; omega)) _ | (with_reducible refine Ext.trans ?_ (by with_reducible assumption)))), Nat.le_refl _, fun j hj => ?_, fun j hj => ?_⟩, by simp⟩
      · match j, hj with
        | 0, _ | 1, _ | 2, _ | 3, _ | 4, _ | 5, _ => simp [nm]
      · simp
    rintro x0 ⟨N0, hx⟩
    clear hB
    go_loopw [5, 6, 7] (fun k ok i x => ∃ n : Nat, n ≤ 19 ∧ k = .int .i64 (kk n) ∧ ok = .bool true ∧ i = .int .i64 n ∧ pat l n = true ∧ Nums w B l n x ∧ B < x.heap.size) (fun _ _ i _ => 19 - (intOf i).toNat)
    case atStart => exact ⟨0, by omega, rfl, rfl, rfl, rfl, N0, hx⟩
    case round =>
      clear N0 hx
      obtain ⟨n, hn, rfl, rfl, rfl, P, N, hx⟩ := hrel
      by_cases h9 : n < 19
      · have h9' : decide ((n : Int) < 19) = true := dt (by omega)
        obtain ⟨v, hv⟩ : ∃ v : Int, ((l.getD n 0).toNat : Int) = v := ⟨_, rfl⟩
        have ix := idx_str Tryd.underlying9 s n (by omega) (v := v) (by rw [hl]; exact hv)
        have hfb := form_bd n h9
        obtain ⟨f, hf⟩ : ∃ f : Int, ((form.getD n 0).toNat : Int) = f := ⟨_, rfl⟩
        have ixf := idx_str Tryd.underlying9 ⟨#[48, 48, 48, 48, 45, 48, 48, 45, 48, 48, 32, 48, 48, 58, 48, 48, 58, 48, 48]⟩ n (show n < 19 from h9) (v := f) (by exact hf)
        by_cases hF : form.getD n 0 = 48
        · have hf' : f = 48 := by rw [← hf, hF]; rfl
          subst hf'
          by_cases hd : 48 ≤ v ∧ v ≤ 57
          · obtain ⟨d1, d2⟩ := hd
            have kl := kk_lt n (by omega)
            have nb := nm_le (j := kk n) P (by omega) kl
            have c := N.cell _ kl
            have fz := N.free _ kl
            obtain ⟨K, hK⟩ : ∃ K, kk n = K := ⟨_, rfl⟩
            obtain ⟨q, hq⟩ : ∃ q, nm l n (kk n) = q := ⟨_, rfl⟩
            rw [hq] at nb c
            rw [hK] at kl c fz
            simp only [hK]
            clear hl
            have e1 : wrap64 (10 * q) = 10 * q := by unfold wrap64; omega
            have e2 : IntKind.u8.wrap (v - 48) = v - 48 := by simp [IntKind.wrap, IntKind.signed, IntKind.bits]; omega
            have e3 : wrap64 (v - 48) = v - 48 := by unfold wrap64; omega
            have e4 : wrap64 (10 * q + (v - 48)) = 10 * q + (v - 48) := by unfold wrap64; omega
            go_wp2_with fail
            go_region
            go_wp2
            refine ⟨⟨n + 1, by omega, ?_, rfl, by go_num, ?_, ?_, by simpa using hx⟩, by simp [intOf]; omega⟩
            · rw [kk_succ n h9, if_pos hF, hK]
            · show (pat l n && okAt l n) = true
              rw [P]
              unfold okAt
              rw [if_pos hF, Bool.true_and]
              exact decide_eq_true (by omega)
            · have := (N.digit h9 hF).drew1
              rw [hv, hq, hK] at this
              exact this
          · have bad : okAt l n = false := by
              unfold okAt; rw [if_pos hF]; exact decide_eq_false (by omega)
            by_cases g : v < 48
            · have g1 : decide (48 ≤ v) = false := df (by omega)
              have g2 : (v == 48) = false := by simp; omega
              obtain ⟨K, hK⟩ : ∃ K, kk n = K := ⟨_, rfl⟩
              simp only [hK]
              have HL := Lib.hid hl
              clear hl
              go_wp2_with fail
              go_quiet (fail)
              go_upto_region 12 with fail
              refine wp_forget (fun x => Nums w B l n x ∧ B < x.heap.size) ⟨N.drew _, by simpa using hx⟩ ?_
              clear N hx
              rintro xr ⟨N, hx⟩
              have c0 := N.cell 0 (by omega)
              have c1 := N.cell 1 (by omega)
              have c2 := N.cell 2 (by omega)
              have c3 := N.cell 3 (by omega)
              have c4 := N.cell 4 (by omega)
              have c5 := N.cell 5 (by omega)
              obtain ⟨y, hy⟩ : ∃ y, nm l n 0 = y := ⟨_, rfl⟩
              obtain ⟨m, hm⟩ : ∃ y, nm l n 1 = y := ⟨_, rfl⟩
              obtain ⟨d, hd'⟩ : ∃ y, nm l n 2 = y := ⟨_, rfl⟩
              obtain ⟨a, ha⟩ : ∃ y, nm l n 3 = y := ⟨_, rfl⟩
              obtain ⟨b, hb⟩ : ∃ y, nm l n 4 = y := ⟨_, rfl⟩
              obtain ⟨c, hc⟩ : ∃ y, nm l n 5 = y := ⟨_, rfl⟩
              rw [hy] at c0
              rw [hm] at c1
              rw [hd'] at c2
              rw [ha] at c3
              rw [hb] at c4
              rw [hc] at c5
              have EX := N.ext
              cases ho : okc y m d a b c
              · have HO := Lib.hid ho
                clear ho
                go_wp2_with (first | (go_at_call 20; (with_reducible refine (cvOf_no _ _ _ _ _ _ _ (hL.ext (by (repeat (first | with_reducible exact Ext.refl _ | with_reducible assumption | exact Ext.mk (by with_reducible assumption) | with_reducible refine Ext.alloc ?_ _ | with_reducible refine Ext.drewN ?_ _ | with_reducible refine Ext.drew ?_ | with_reducible refine Ext.setCell ?_ (by first | (simp; done) | assumption | (simp; omega)) _ | (with_reducible refine Ext.trans ?_ (by with_reducible assumption)))))) HO.out).mono ?_); rintro e w5 ⟨rfl, E5⟩; have hc5 := E5.2.1; have hf5 := E5.2.2; have hz5 := E5.size; have ht5 := E5.sizes; (try simp [Nat.add_one_le_iff] at hz5); (try have hy5 := Nat.le_of_lt hz5); have F5 : Ext (xr.alloc (.cells #[.int .i64 y, .int .i64 m, .int .i64 d, .int .i64 a, .int .i64 b, .int .i64 c] 37)) w5 := (by (repeat (first | with_reducible exact Ext.refl _ | with_reducible assumption | exact Ext.mk (by with_reducible assumption) | with_reducible refine Ext.alloc ?_ _ | with_reducible refine Ext.drewN ?_ _ | with_reducible refine Ext.drew ?_ | with_reducible refine Ext.setCell ?_ (by first | (simp; done) | assumption | (simp; omega)) _ | (with_reducible refine Ext.trans ?_ (by with_reducible assumption))))); have kc5 := F5.2.1; have kf5 := F5.2.2; have kz5 := F5.size; have kt5 := F5.sizes; (try simp [Nat.add_one_le_iff] at kz5); (try have ky5 := Nat.le_of_lt kz5)) | (go_at_call 16; (with_reducible refine (at_zero _).mono ?_); rintro e w6 ⟨rfl, E6⟩; have hc6 := E6.2.1; have hf6 := E6.2.2; have hz6 := E6.size; have ht6 := E6.sizes; (try simp [Nat.add_one_le_iff] at hz6); (try have hy6 := Nat.le_of_lt hz6); have F6 : Ext (xr.alloc (.cells #[.int .i64 y, .int .i64 m, .int .i64 d, .int .i64 a, .int .i64 b, .int .i64 c] 37)) w6 := (by (repeat (first | with_reducible exact Ext.refl _ | with_reducible assumption | exact Ext.mk (by with_reducible assumption) | with_reducible refine Ext.alloc ?_ _ | with_reducible refine Ext.drewN ?_ _ | with_reducible refine Ext.drew ?_ | with_reducible refine Ext.setCell ?_ (by first | (simp; done) | assumption | (simp; omega)) _ | (with_reducible refine Ext.trans ?_ (by with_reducible assumption))))); have kc6 := F6.2.1; have kf6 := F6.2.2; have kz6 := F6.size; have kt6 := F6.sizes; (try simp [Nat.add_one_le_iff] at kz6); (try have ky6 := Nat.le_of_lt kz6)))
                rw [Exit.noGoto_ret]
                go_ret2
                refine ⟨?_, by (repeat (first | with_reducible exact Ext.refl _ | with_reducible assumption | exact Ext.mk (by with_reducible assumption) | with_reducible refine Ext.alloc ?_ _ | with_reducible refine Ext.drewN ?_ _ | with_reducible refine Ext.drew ?_ | with_reducible refine Ext.setCell ?_ (by first | (simp; done) | assumption | (simp; omega)) _ | (with_reducible refine Ext.trans ?_ (by with_reducible assumption))))⟩
                rw [if_neg (by rintro ⟨_, h2, _⟩; rw [HL.out, pat_bad19 bad h9] at h2; cases h2)]
                rfl
              · have HO := Lib.hid ho
                clear ho
                go_wp2_with (first | (go_at_call 20; (with_reducible refine (cvOf_yes _ _ _ _ _ _ _ (hL.ext (by (repeat (first | with_reducible exact Ext.refl _ | with_reducible assumption | exact Ext.mk (by with_reducible assumption) | with_reducible refine Ext.alloc ?_ _ | with_reducible refine Ext.drewN ?_ _ | with_reducible refine Ext.drew ?_ | with_reducible refine Ext.setCell ?_ (by first | (simp; done) | assumption | (simp; omega)) _ | (with_reducible refine Ext.trans ?_ (by with_reducible assumption)))))) HO.out).mono ?_); rintro e w5 ⟨rfl, E5⟩; have hc5 := E5.2.1; have hf5 := E5.2.2; have hz5 := E5.size; have ht5 := E5.sizes; (try simp [Nat.add_one_le_iff] at hz5); (try have hy5 := Nat.le_of_lt hz5); have F5 : Ext (xr.alloc (.cells #[.int .i64 y, .int .i64 m, .int .i64 d, .int .i64 a, .int .i64 b, .int .i64 c] 37)) w5 := (by (repeat (first | with_reducible exact Ext.refl _ | with_reducible assumption | exact Ext.mk (by with_reducible assumption) | with_reducible refine Ext.alloc ?_ _ | with_reducible refine Ext.drewN ?_ _ | with_reducible refine Ext.drew ?_ | with_reducible refine Ext.setCell ?_ (by first | (simp; done) | assumption | (simp; omega)) _ | (with_reducible refine Ext.trans ?_ (by with_reducible assumption))))); have kc5 := F5.2.1; have kf5 := F5.2.2; have kz5 := F5.size; have kt5 := F5.sizes; (try simp [Nat.add_one_le_iff] at kz5); (try have ky5 := Nat.le_of_lt kz5)) | (go_at_call 16; (with_reducible refine (at_tim HO.out _).mono ?_); rintro e w6 ⟨rfl, E6⟩; have hc6 := E6.2.1; have hf6 := E6.2.2; have hz6 := E6.size; have ht6 := E6.sizes; (try simp [Nat.add_one_le_iff] at hz6); (try have hy6 := Nat.le_of_lt hz6); have F6 : Ext (xr.alloc (.cells #[.int .i64 y, .int .i64 m, .int .i64 d, .int .i64 a, .int .i64 b, .int .i64 c] 37)) w6 := (by (repeat (first | with_reducible exact Ext.refl _ | with_reducible assumption | exact Ext.mk (by with_reducible assumption) | with_reducible refine Ext.alloc ?_ _ | with_reducible refine Ext.drewN ?_ _ | with_reducible refine Ext.drew ?_ | with_reducible refine Ext.setCell ?_ (by first | (simp; done) | assumption | (simp; omega)) _ | (with_reducible refine Ext.trans ?_ (by with_reducible assumption))))); have kc6 := F6.2.1; have kf6 := F6.2.2; have kz6 := F6.size; have kt6 := F6.sizes; (try simp [Nat.add_one_le_iff] at kz6); (try have ky6 := Nat.le_of_lt kz6)))
                rw [Exit.noGoto_ret]
                go_ret2
                refine ⟨?_, by (repeat (first | with_reducible exact Ext.refl _ | with_reducible assumption | exact Ext.mk (by with_reducible assumption) | with_reducible refine Ext.alloc ?_ _ | with_reducible refine Ext.drewN ?_ _ | with_reducible refine Ext.drew ?_ | with_reducible refine Ext.setCell ?_ (by first | (simp; done) | assumption | (simp; omega)) _ | (with_reducible refine Ext.trans ?_ (by with_reducible assumption))))⟩
                rw [if_neg (by rintro ⟨_, h2, _⟩; rw [HL.out, pat_bad19 bad h9] at h2; cases h2)]
                rfl
            · have g1 : decide (48 ≤ v) = true := dt (by omega)
              have g3 : decide (v ≤ 57) = false := df (by omega)
              have g2 : (v == 48) = false := by simp; omega
              obtain ⟨K, hK⟩ : ∃ K, kk n = K := ⟨_, rfl⟩
              simp only [hK]
              have HL := Lib.hid hl
              clear hl
              go_wp2_with fail
              go_quiet (fail)
              go_upto_region 12 with fail
              refine wp_forget (fun x => Nums w B l n x ∧ B < x.heap.size) ⟨N.drew _, by simpa using hx⟩ ?_
              clear N hx
              rintro xr ⟨N, hx⟩
              have c0 := N.cell 0 (by omega)
              have c1 := N.cell 1 (by omega)
              have c2 := N.cell 2 (by omega)
              have c3 := N.cell 3 (by omega)
              have c4 := N.cell 4 (by omega)
              have c5 := N.cell 5 (by omega)
              obtain ⟨y, hy⟩ : ∃ y, nm l n 0 = y := ⟨_, rfl⟩
              obtain ⟨m, hm⟩ : ∃ y, nm l n 1 = y := ⟨_, rfl⟩
              obtain ⟨d, hd'⟩ : ∃ y, nm l n 2 = y := ⟨_, rfl⟩
              obtain ⟨a, ha⟩ : ∃ y, nm l n 3 = y := ⟨_, rfl⟩
              obtain ⟨b, hb⟩ : ∃ y, nm l n 4 = y := ⟨_, rfl⟩
              obtain ⟨c, hc⟩ : ∃ y, nm l n 5 = y := ⟨_, rfl⟩
              rw [hy] at c0
              rw [hm] at c1
              rw [hd'] at c2
              rw [ha] at c3
              rw [hb] at c4
              rw [hc] at c5
              have EX := N.ext
              cases ho : okc y m d a b c
              · have HO := Lib.hid ho
                clear ho
                go_wp2_with (first | (go_at_call 20; (with_reducible refine (cvOf_no _ _ _ _ _ _ _ (hL.ext (by (repeat (first | with_reducible exact Ext.refl _ | with_reducible assumption | exact Ext.mk (by with_reducible assumption) | with_reducible refine Ext.alloc ?_ _ | with_reducible refine Ext.drewN ?_ _ | with_reducible refine Ext.drew ?_ | with_reducible refine Ext.setCell ?_ (by first | (simp; done) | assumption | (simp; omega)) _ | (with_reducible refine Ext.trans ?_ (by with_reducible assumption)))))) HO.out).mono ?_); rintro e w5 ⟨rfl, E5⟩; have hc5 := E5.2.1; have hf5 := E5.2.2; have hz5 := E5.size; have ht5 := E5.sizes; (try simp [Nat.add_one_le_iff] at hz5); (try have hy5 := Nat.le_of_lt hz5); have F5 : Ext (xr.alloc (.cells #[.int .i64 y, .int .i64 m, .int .i64 d, .int .i64 a, .int .i64 b, .int .i64 c] 37)) w5 := (by (repeat (first | with_reducible exact Ext.refl _ | with_reducible assumption | exact Ext.mk (by with_reducible assumption) | with_reducible refine Ext.alloc ?_ _ | with_reducible refine Ext.drewN ?_ _ | with_reducible refine Ext.drew ?_ | with_reducible refine Ext.setCell ?_ (by first | (simp; done) | assumption | (simp; omega)) _ | (with_reducible refine Ext.trans ?_ (by with_reducible assumption))))); have kc5 := F5.2.1; have kf5 := F5.2.2; have kz5 := F5.size; have kt5 := F5.sizes; (try simp [Nat.add_one_le_iff] at kz5); (try have ky5 := Nat.le_of_lt kz5)) | (go_at_call 16; (with_reducible refine (at_zero _).mono ?_); rintro e w6 ⟨rfl, E6⟩; have hc6 := E6.2.1; have hf6 := E6.2.2; have hz6 := E6.size; have ht6 := E6.sizes; (try simp [Nat.add_one_le_iff] at hz6); (try have hy6 := Nat.le_of_lt hz6); have F6 : Ext (xr.alloc (.cells #[.int .i64 y, .int .i64 m, .int .i64 d, .int .i64 a, .int .i64 b, .int .i64 c] 37)) w6 := (by (repeat (first | with_reducible exact Ext.refl _ | with_reducible assumption | exact Ext.mk (by with_reducible assumption) | with_reducible refine Ext.alloc ?_ _ | with_reducible refine Ext.drewN ?_ _ | with_reducible refine Ext.drew ?_ | with_reducible refine Ext.setCell ?_ (by first | (simp; done) | assumption | (simp; omega)) _ | (with_reducible refine Ext.trans ?_ (by with_reducible assumption))))); have kc6 := F6.2.1; have kf6 := F6.2.2; have kz6 := F6.size; have kt6 := F6.sizes; (try simp [Nat.add_one_le_iff] at kz6); (try have ky6 := Nat.le_of_lt kz6)))
                rw [Exit.noGoto_ret]
                go_ret2
                refine ⟨?_, by (repeat (first | with_reducible exact Ext.refl _ | with_reducible assumption | exact Ext.mk (by with_reducible assumption) | with_reducible refine Ext.alloc ?_ _ | with_reducible refine Ext.drewN ?_ _ | with_reducible refine Ext.drew ?_ | with_reducible refine Ext.setCell ?_ (by first | (simp; done) | assumption | (simp; omega)) _ | (with_reducible refine Ext.trans ?_ (by with_reducible assumption))))⟩
                rw [if_neg (by rintro ⟨_, h2, _⟩; rw [HL.out, pat_bad19 bad h9] at h2; cases h2)]
                rfl
              · have HO := Lib.hid ho
                clear ho
                go_wp2_with (first | (go_at_call 20; (with_reducible refine (cvOf_yes _ _ _ _ _ _ _ (hL.ext (by (repeat (first | with_reducible exact Ext.refl _ | with_reducible assumption | exact Ext.mk (by with_reducible assumption) | with_reducible refine Ext.alloc ?_ _ | with_reducible refine Ext.drewN ?_ _ | with_reducible refine Ext.drew ?_ | with_reducible refine Ext.setCell ?_ (by first | (simp; done) | assumption | (simp; omega)) _ | (with_reducible refine Ext.trans ?_ (by with_reducible assumption)))))) HO.out).mono ?_); rintro e w5 ⟨rfl, E5⟩; have hc5 := E5.2.1; have hf5 := E5.2.2; have hz5 := E5.size; have ht5 := E5.sizes; (try simp [Nat.add_one_le_iff] at hz5); (try have hy5 := Nat.le_of_lt hz5); have F5 : Ext (xr.alloc (.cells #[.int .i64 y, .int .i64 m, .int .i64 d, .int .i64 a, .int .i64 b, .int .i64 c] 37)) w5 := (by (repeat (first | with_reducible exact Ext.refl _ | with_reducible assumption | exact Ext.mk (by with_reducible assumption) | with_reducible refine Ext.alloc ?_ _ | with_reducible refine Ext.drewN ?_ _ | with_reducible refine Ext.drew ?_ | with_reducible refine Ext.setCell ?_ (by first | (simp; done) | assumption | (simp; omega)) _ | (with_reducible refine Ext.trans ?_ (by with_reducible assumption))))); have kc5 := F5.2.1; have kf5 := F5.2.2; have kz5 := F5.size; have kt5 := F5.sizes; (try simp [Nat.add_one_le_iff] at kz5); (try have ky5 := Nat.le_of_lt kz5)) | (go_at_call 16; (with_reducible refine (at_tim HO.out _).mono ?_); rintro e w6 ⟨rfl, E6⟩; have hc6 := E6.2.1; have hf6 := E6.2.2; have hz6 := E6.size; have ht6 := E6.sizes; (try simp [Nat.add_one_le_iff] at hz6); (try have hy6 := Nat.le_of_lt hz6); have F6 : Ext (xr.alloc (.cells #[.int .i64 y, .int .i64 m, .int .i64 d, .int .i64 a, .int .i64 b, .int .i64 c] 37)) w6 := (by (repeat (first | with_reducible exact Ext.refl _ | with_reducible assumption | exact Ext.mk (by with_reducible assumption) | with_reducible refine Ext.alloc ?_ _ | with_reducible refine Ext.drewN ?_ _ | with_reducible refine Ext.drew ?_ | with_reducible refine Ext.setCell ?_ (by first | (simp; done) | assumption | (simp; omega)) _ | (with_reducible refine Ext.trans ?_ (by with_reducible assumption))))); have kc6 := F6.2.1; have kf6 := F6.2.2; have kz6 := F6.size; have kt6 := F6.sizes; (try simp [Nat.add_one_le_iff] at kz6); (try have ky6 := Nat.le_of_lt kz6)))
                rw [Exit.noGoto_ret]
                go_ret2
                refine ⟨?_, by (repeat (first | with_reducible exact Ext.refl _ | with_reducible assumption | exact Ext.mk (by with_reducible assumption) | with_reducible refine Ext.alloc ?_ _ | with_reducible refine Ext.drewN ?_ _ | with_reducible refine Ext.drew ?_ | with_reducible refine Ext.setCell ?_ (by first | (simp; done) | assumption | (simp; omega)) _ | (with_reducible refine Ext.trans ?_ (by with_reducible assumption))))⟩
                rw [if_neg (by rintro ⟨_, h2, _⟩; rw [HL.out, pat_bad19 bad h9] at h2; cases h2)]
                rfl
        · by_cases hd : v = f
          · have gd : v < 48 ∨ 57 < v := by
              rcases hfb with h | h | h | h
              · exact absurd h hF
              all_goals (rw [h] at hf; simp at hf; omega)
            have good : okAt l n = true := by
              unfold okAt; rw [if_neg hF, beq_iff_eq]
              apply UInt8.toNat_inj.mp; rw [← hv, ← hf] at hd; exact_mod_cast hd
            subst hd
            rcases gd with g | g
            · have g1 : decide (48 ≤ v) = false := df (by omega)
              obtain ⟨K, hK⟩ : ∃ K, kk n = K := ⟨_, rfl⟩
              have kl := kk_lt n (by omega)
              rw [hK] at kl
              simp only [hK]
              clear hl
              go_wp2_with fail
              go_quiet (fail)
              go_wp2_with fail
              refine ⟨⟨n + 1, by omega, ?_, rfl, by go_num, ?_, (N.mark hF).drew _, by simpa using hx⟩, by simp [intOf]; omega⟩
              · rw [kk_succ n h9, if_neg hF, hK]; go_num
              · show (pat l n && okAt l n) = true
                rw [P, good]; rfl
            · have g1 : decide (48 ≤ v) = true := dt (by omega)
              have g3 : decide (v ≤ 57) = false := df (by omega)
              obtain ⟨K, hK⟩ : ∃ K, kk n = K := ⟨_, rfl⟩
              have kl := kk_lt n (by omega)
              rw [hK] at kl
              simp only [hK]
              clear hl
              go_wp2_with fail
              go_quiet (fail)
              go_wp2_with fail
              refine ⟨⟨n + 1, by omega, ?_, rfl, by go_num, ?_, (N.mark hF).drew _, by simpa using hx⟩, by simp [intOf]; omega⟩
              · rw [kk_succ n h9, if_neg hF, hK]; go_num
              · show (pat l n && okAt l n) = true
                rw [P, good]; rfl
          · have bad : okAt l n = false := by
              unfold okAt; rw [if_neg hF]
              simp only [beq_eq_false_iff_ne]
              intro h; rw [h] at hv; omega
            have g2 : (v == f) = false := by simpa using hd
            have g4 : (f == 48) = false := by
              simp only [beq_eq_false_iff_ne]
              intro h; apply hF; apply UInt8.toNat_inj.mp; rw [h] at hf; show _ = 48; exact_mod_cast hf
            by_cases g : v < 48
            · have g1 : decide (48 ≤ v) = false := df (by omega)
              obtain ⟨K, hK⟩ : ∃ K, kk n = K := ⟨_, rfl⟩
              simp only [hK]
              have HL := Lib.hid hl
              clear hl
              go_wp2_with fail
              go_quiet (fail)
              go_upto_region 12 with fail
              refine wp_forget (fun x => Nums w B l n x ∧ B < x.heap.size) ⟨N.drew _, by simpa using hx⟩ ?_
              clear N hx
              rintro xr ⟨N, hx⟩
              have c0 := N.cell 0 (by omega)
              have c1 := N.cell 1 (by omega)
              have c2 := N.cell 2 (by omega)
              have c3 := N.cell 3 (by omega)
              have c4 := N.cell 4 (by omega)
              have c5 := N.cell 5 (by omega)
              obtain ⟨y, hy⟩ : ∃ y, nm l n 0 = y := ⟨_, rfl⟩
              obtain ⟨m, hm⟩ : ∃ y, nm l n 1 = y := ⟨_, rfl⟩
              obtain ⟨d, hd'⟩ : ∃ y, nm l n 2 = y := ⟨_, rfl⟩
              obtain ⟨a, ha⟩ : ∃ y, nm l n 3 = y := ⟨_, rfl⟩
              obtain ⟨b, hb⟩ : ∃ y, nm l n 4 = y := ⟨_, rfl⟩
              obtain ⟨c, hc⟩ : ∃ y, nm l n 5 = y := ⟨_, rfl⟩
              rw [hy] at c0
              rw [hm] at c1
              rw [hd'] at c2
              rw [ha] at c3
              rw [hb] at c4
              rw [hc] at c5
              have EX := N.ext
              cases ho : okc y m d a b c
              · have HO := Lib.hid ho
                clear ho
                go_wp2_with (first | (go_at_call 20; (with_reducible refine (cvOf_no _ _ _ _ _ _ _ (hL.ext (by (repeat (first | with_reducible exact Ext.refl _ | with_reducible assumption | exact Ext.mk (by with_reducible assumption) | with_reducible refine Ext.alloc ?_ _ | with_reducible refine Ext.drewN ?_ _ | with_reducible refine Ext.drew ?_ | with_reducible refine Ext.setCell ?_ (by first | (simp; done) | assumption | (simp; omega)) _ | (with_reducible refine Ext.trans ?_ (by with_reducible assumption)))))) HO.out).mono ?_); rintro e w5 ⟨rfl, E5⟩; have hc5 := E5.2.1; have hf5 := E5.2.2; have hz5 := E5.size; have ht5 := E5.sizes; (try simp [Nat.add_one_le_iff] at hz5); (try have hy5 := Nat.le_of_lt hz5); have F5 : Ext (xr.alloc (.cells #[.int .i64 y, .int .i64 m, .int .i64 d, .int .i64 a, .int .i64 b, .int .i64 c] 37)) w5 := (by (repeat (first | with_reducible exact Ext.refl _ | with_reducible assumption | exact Ext.mk (by with_reducible assumption) | with_reducible refine Ext.alloc ?_ _ | with_reducible refine Ext.drewN ?_ _ | with_reducible refine Ext.drew ?_ | with_reducible refine Ext.setCell ?_ (by first | (simp; done) | assumption | (simp; omega)) _ | (with_reducible refine Ext.trans ?_ (by with_reducible assumption))))); have kc5 := F5.2.1; have kf5 := F5.2.2; have kz5 := F5.size; have kt5 := F5.sizes; (try simp [Nat.add_one_le_iff] at kz5); (try have ky5 := Nat.le_of_lt kz5)) | (go_at_call 16; (with_reducible refine (at_zero _).mono ?_); rintro e w6 ⟨rfl, E6⟩; have hc6 := E6.2.1; have hf6 := E6.2.2; have hz6 := E6.size; have ht6 := E6.sizes; (try simp [Nat.add_one_le_iff] at hz6); (try have hy6 := Nat.le_of_lt hz6); have F6 : Ext (xr.alloc (.cells #[.int .i64 y, .int .i64 m, .int .i64 d, .int .i64 a, .int .i64 b, .int .i64 c] 37)) w6 := (by (repeat (first | with_reducible exact Ext.refl _ | with_reducible assumption | exact Ext.mk (by with_reducible assumption) | with_reducible refine Ext.alloc ?_ _ | with_reducible refine Ext.drewN ?_ _ | with_reducible refine Ext.drew ?_ | with_reducible refine Ext.setCell ?_ (by first | (simp; done) | assumption | (simp; omega)) _ | (with_reducible refine Ext.trans ?_ (by with_reducible assumption))))); have kc6 := F6.2.1; have kf6 := F6.2.2; have kz6 := F6.size; have kt6 := F6.sizes; (try simp [Nat.add_one_le_iff] at kz6); (try have ky6 := Nat.le_of_lt kz6)))
                rw [Exit.noGoto_ret]
                go_ret2
                refine ⟨?_, by (repeat (first | with_reducible exact Ext.refl _ | with_reducible assumption | exact Ext.mk (by with_reducible assumption) | with_reducible refine Ext.alloc ?_ _ | with_reducible refine Ext.drewN ?_ _ | with_reducible refine Ext.drew ?_ | with_reducible refine Ext.setCell ?_ (by first | (simp; done) | assumption | (simp; omega)) _ | (with_reducible refine Ext.trans ?_ (by with_reducible assumption))))⟩
                rw [if_neg (by rintro ⟨_, h2, _⟩; rw [HL.out, pat_bad19 bad h9] at h2; cases h2)]
                rfl
              · have HO := Lib.hid ho
                clear ho
                go_wp2_with (first | (go_at_call 20; (with_reducible refine (cvOf_yes _ _ _ _ _ _ _ (hL.ext (by (repeat (first | with_reducible exact Ext.refl _ | with_reducible assumption | exact Ext.mk (by with_reducible assumption) | with_reducible refine Ext.alloc ?_ _ | with_reducible refine Ext.drewN ?_ _ | with_reducible refine Ext.drew ?_ | with_reducible refine Ext.setCell ?_ (by first | (simp; done) | assumption | (simp; omega)) _ | (with_reducible refine Ext.trans ?_ (by with_reducible assumption)))))) HO.out).mono ?_); rintro e w5 ⟨rfl, E5⟩; have hc5 := E5.2.1; have hf5 := E5.2.2; have hz5 := E5.size; have ht5 := E5.sizes; (try simp [Nat.add_one_le_iff] at hz5); (try have hy5 := Nat.le_of_lt hz5); have F5 : Ext (xr.alloc (.cells #[.int .i64 y, .int .i64 m, .int .i64 d, .int .i64 a, .int .i64 b, .int .i64 c] 37)) w5 := (by (repeat (first | with_reducible exact Ext.refl _ | with_reducible assumption | exact Ext.mk (by with_reducible assumption) | with_reducible refine Ext.alloc ?_ _ | with_reducible refine Ext.drewN ?_ _ | with_reducible refine Ext.drew ?_ | with_reducible refine Ext.setCell ?_ (by first | (simp; done) | assumption | (simp; omega)) _ | (with_reducible refine Ext.trans ?_ (by with_reducible assumption))))); have kc5 := F5.2.1; have kf5 := F5.2.2; have kz5 := F5.size; have kt5 := F5.sizes; (try simp [Nat.add_one_le_iff] at kz5); (try have ky5 := Nat.le_of_lt kz5)) | (go_at_call 16; (with_reducible refine (at_tim HO.out _).mono ?_); rintro e w6 ⟨rfl, E6⟩; have hc6 := E6.2.1; have hf6 := E6.2.2; have hz6 := E6.size; have ht6 := E6.sizes; (try simp [Nat.add_one_le_iff] at hz6); (try have hy6 := Nat.le_of_lt hz6); have F6 : Ext (xr.alloc (.cells #[.int .i64 y, .int .i64 m, .int .i64 d, .int .i64 a, .int .i64 b, .int .i64 c] 37)) w6 := (by (repeat (first | with_reducible exact Ext.refl _ | with_reducible assumption | exact Ext.mk (by with_reducible assumption) | with_reducible refine Ext.alloc ?_ _ | with_reducible refine Ext.drewN ?_ _ | with_reducible refine Ext.drew ?_ | with_reducible refine Ext.setCell ?_ (by first | (simp; done) | assumption | (simp; omega)) _ | (with_reducible refine Ext.trans ?_ (by with_reducible assumption))))); have kc6 := F6.2.1; have kf6 := F6.2.2; have kz6 := F6.size; have kt6 := F6.sizes; (try simp [Nat.add_one_le_iff] at kz6); (try have ky6 := Nat.le_of_lt kz6)))
                rw [Exit.noGoto_ret]
                go_ret2
                refine ⟨?_, by (repeat (first | with_reducible exact Ext.refl _ | with_reducible assumption | exact Ext.mk (by with_reducible assumption) | with_reducible refine Ext.alloc ?_ _ | with_reducible refine Ext.drewN ?_ _ | with_reducible refine Ext.drew ?_ | with_reducible refine Ext.setCell ?_ (by first | (simp; done) | assumption | (simp; omega)) _ | (with_reducible refine Ext.trans ?_ (by with_reducible assumption))))⟩
                rw [if_neg (by rintro ⟨_, h2, _⟩; rw [HL.out, pat_bad19 bad h9] at h2; cases h2)]
                rfl
            · have g1 : decide (48 ≤ v) = true := dt (by omega)
              by_cases g' : 57 < v
              · have g3 : decide (v ≤ 57) = false := df (by omega)
                obtain ⟨K, hK⟩ : ∃ K, kk n = K := ⟨_, rfl⟩
                simp only [hK]
                have HL := Lib.hid hl
                clear hl
                go_wp2_with fail
                go_quiet (fail)
                go_upto_region 12 with fail
                refine wp_forget (fun x => Nums w B l n x ∧ B < x.heap.size) ⟨N.drew _, by simpa using hx⟩ ?_
                clear N hx
                rintro xr ⟨N, hx⟩
                have c0 := N.cell 0 (by omega)
                have c1 := N.cell 1 (by omega)
                have c2 := N.cell 2 (by omega)
                have c3 := N.cell 3 (by omega)
                have c4 := N.cell 4 (by omega)
                have c5 := N.cell 5 (by omega)
                obtain ⟨y, hy⟩ : ∃ y, nm l n 0 = y := ⟨_, rfl⟩
                obtain ⟨m, hm⟩ : ∃ y, nm l n 1 = y := ⟨_, rfl⟩
                obtain ⟨d, hd'⟩ : ∃ y, nm l n 2 = y := ⟨_, rfl⟩
                obtain ⟨a, ha⟩ : ∃ y, nm l n 3 = y := ⟨_, rfl⟩
                obtain ⟨b, hb⟩ : ∃ y, nm l n 4 = y := ⟨_, rfl⟩
                obtain ⟨c, hc⟩ : ∃ y, nm l n 5 = y := ⟨_, rfl⟩
                rw [hy] at c0
                rw [hm] at c1
                rw [hd'] at c2
                rw [ha] at c3
                rw [hb] at c4
                rw [hc] at c5
                have EX := N.ext
                cases ho : okc y m d a b c
                · have HO := Lib.hid ho
                  clear ho
                  go_wp2_with (first | (go_at_call 20; (with_reducible refine (cvOf_no _ _ _ _ _ _ _ (hL.ext (by (repeat (first | with_reducible exact Ext.refl _ | with_reducible assumption | exact Ext.mk (by with_reducible assumption) | with_reducible refine Ext.alloc ?_ _ | with_reducible refine Ext.drewN ?_ _ | with_reducible refine Ext.drew ?_ | with_reducible refine Ext.setCell ?_ (by first | (simp; done) | assumption | (simp; omega)) _ | (with_reducible refine Ext.trans ?_ (by with_reducible assumption)))))) HO.out).mono ?_); rintro e w5 ⟨rfl, E5⟩; have hc5 := E5.2.1; have hf5 := E5.2.2; have hz5 := E5.size; have ht5 := E5.sizes; (try simp [Nat.add_one_le_iff] at hz5); (try have hy5 := Nat.le_of_lt hz5); have F5 : Ext (xr.alloc (.cells #[.int .i64 y, .int .i64 m, .int .i64 d, .int .i64 a, .int .i64 b, .int .i64 c] 37)) w5 := (by (repeat (first | with_reducible exact Ext.refl _ | with_reducible assumption | exact Ext.mk (by with_reducible assumption) | with_reducible refine Ext.alloc ?_ _ | with_reducible refine Ext.drewN ?_ _ | with_reducible refine Ext.drew ?_ | with_reducible refine Ext.setCell ?_ (by first | (simp; done) | assumption | (simp; omega)) _ | (with_reducible refine Ext.trans ?_ (by with_reducible assumption))))); have kc5 := F5.2.1; have kf5 := F5.2.2; have kz5 := F5.size; have kt5 := F5.sizes; (try simp [Nat.add_one_le_iff] at kz5); (try have ky5 := Nat.le_of_lt kz5)) | (go_at_call 16; (with_reducible refine (at_zero _).mono ?_); rintro e w6 ⟨rfl, E6⟩; have hc6 := E6.2.1; have hf6 := E6.2.2; have hz6 := E6.size; have ht6 := E6.sizes; (try simp [Nat.add_one_le_iff] at hz6); (try have hy6 := Nat.le_of_lt hz6); have F6 : Ext (xr.alloc (.cells #[.int .i64 y, .int .i64 m, .int .i64 d, .int .i64 a, .int .i64 b, .int .i64 c] 37)) w6 := (by (repeat (first | with_reducible exact Ext.refl _ | with_reducible assumption | exact Ext.mk (by with_reducible assumption) | with_reducible refine Ext.alloc ?_ _ | with_reducible refine Ext.drewN ?_ _ | with_reducible refine Ext.drew ?_ | with_reducible refine Ext.setCell ?_ (by first | (simp; done) | assumption | (simp; omega)) _ | (with_reducible refine Ext.trans ?_ (by with_reducible assumption))))); have kc6 := F6.2.1; have kf6 := F6.2.2; have kz6 := F6.size; have kt6 := F6.sizes; (try simp [Nat.add_one_le_iff] at kz6); (try have ky6 := Nat.le_of_lt kz6)))
                  rw [Exit.noGoto_ret]
                  go_ret2
                  refine ⟨?_, by (repeat (first | with_reducible exact Ext.refl _ | with_reducible assumption | exact Ext.mk (by with_reducible assumption) | with_reducible refine Ext.alloc ?_ _ | with_reducible refine Ext.drewN ?_ _ | with_reducible refine Ext.drew ?_ | with_reducible refine Ext.setCell ?_ (by first | (simp; done) | assumption | (simp; omega)) _ | (with_reducible refine Ext.trans ?_ (by with_reducible assumption))))⟩
                  rw [if_neg (by rintro ⟨_, h2, _⟩; rw [HL.out, pat_bad19 bad h9] at h2; cases h2)]
                  rfl
                · have HO := Lib.hid ho
                  clear ho
                  go_wp2_with (first | (go_at_call 20; (with_reducible refine (cvOf_yes _ _ _ _ _ _ _ (hL.ext (by (repeat (first | with_reducible exact Ext.refl _ | with_reducible assumption | exact Ext.mk (by with_reducible assumption) | with_reducible refine Ext.alloc ?_ _ | with_reducible refine Ext.drewN ?_ _ | with_reducible refine Ext.drew ?_ | with_reducible refine Ext.setCell ?_ (by first | (simp; done) | assumption | (simp; omega)) _ | (with_reducible refine Ext.trans ?_ (by with_reducible assumption)))))) HO.out).mono ?_); rintro e w5 ⟨rfl, E5⟩; have hc5 := E5.2.1; have hf5 := E5.2.2; have hz5 := E5.size; have ht5 := E5.sizes; (try simp [Nat.add_one_le_iff] at hz5); (try have hy5 := Nat.le_of_lt hz5); have F5 : Ext (xr.alloc (.cells #[.int .i64 y, .int .i64 m, .int .i64 d, .int .i64 a, .int .i64 b, .int .i64 c] 37)) w5 := (by (repeat (first | with_reducible exact Ext.refl _ | with_reducible assumption | exact Ext.mk (by with_reducible assumption) | with_reducible refine Ext.alloc ?_ _ | with_reducible refine Ext.drewN ?_ _ | with_reducible refine Ext.drew ?_ | with_reducible refine Ext.setCell ?_ (by first | (simp; done) | assumption | (simp; omega)) _ | (with_reducible refine Ext.trans ?_ (by with_reducible assumption))))); have kc5 := F5.2.1; have kf5 := F5.2.2; have kz5 := F5.size; have kt5 := F5.sizes; (try simp [Nat.add_one_le_iff] at kz5); (try have ky5 := Nat.le_of_lt kz5)) | (go_at_call 16; (with_reducible refine (at_tim HO.out _).mono ?_); rintro e w6 ⟨rfl, E6⟩; have hc6 := E6.2.1; have hf6 := E6.2.2; have hz6 := E6.size; have ht6 := E6.sizes; (try simp [Nat.add_one_le_iff] at hz6); (try have hy6 := Nat.le_of_lt hz6); have F6 : Ext (xr.alloc (.cells #[.int .i64 y, .int .i64 m, .int .i64 d, .int .i64 a, .int .i64 b, .int .i64 c] 37)) w6 := (by (repeat (first | with_reducible exact Ext.refl _ | with_reducible assumption | exact Ext.mk (by with_reducible assumption) | with_reducible refine Ext.alloc ?_ _ | with_reducible refine Ext.drewN ?_ _ | with_reducible refine Ext.drew ?_ | with_reducible refine Ext.setCell ?_ (by first | (simp; done) | assumption | (simp; omega)) _ | (with_reducible refine Ext.trans ?_ (by with_reducible assumption))))); have kc6 := F6.2.1; have kf6 := F6.2.2; have kz6 := F6.size; have kt6 := F6.sizes; (try simp [Nat.add_one_le_iff] at kz6); (try have ky6 := Nat.le_of_lt kz6)))
                  rw [Exit.noGoto_ret]
                  go_ret2
                  refine ⟨?_, by (repeat (first | with_reducible exact Ext.refl _ | with_reducible assumption | exact Ext.mk (by with_reducible assumption) | with_reducible refine Ext.alloc ?_ _ | with_reducible refine Ext.drewN ?_ _ | with_reducible refine Ext.drew ?_ | with_reducible refine Ext.setCell ?_ (by first | (simp; done) | assumption | (simp; omega)) _ | (with_reducible refine Ext.trans ?_ (by with_reducible assumption))))⟩
                  rw [if_neg (by rintro ⟨_, h2, _⟩; rw [HL.out, pat_bad19 bad h9] at h2; cases h2)]
                  rfl
              · have g3 : decide (v ≤ 57) = true := dt (by omega)
                obtain ⟨K, hK⟩ : ∃ K, kk n = K := ⟨_, rfl⟩
                simp only [hK]
                have HL := Lib.hid hl
                clear hl
                go_wp2_with fail
                go_quiet (fail)
                go_upto_region 12 with fail
                refine wp_forget (fun x => Nums w B l n x ∧ B < x.heap.size) ⟨N.drew _, by simpa using hx⟩ ?_
                clear N hx
                rintro xr ⟨N, hx⟩
                have c0 := N.cell 0 (by omega)
                have c1 := N.cell 1 (by omega)
                have c2 := N.cell 2 (by omega)
                have c3 := N.cell 3 (by omega)
                have c4 := N.cell 4 (by omega)
                have c5 := N.cell 5 (by omega)
                obtain ⟨y, hy⟩ : ∃ y, nm l n 0 = y := ⟨_, rfl⟩
                obtain ⟨m, hm⟩ : ∃ y, nm l n 1 = y := ⟨_, rfl⟩
                obtain ⟨d, hd'⟩ : ∃ y, nm l n 2 = y := ⟨_, rfl⟩
                obtain ⟨a, ha⟩ : ∃ y, nm l n 3 = y := ⟨_, rfl⟩
                obtain ⟨b, hb⟩ : ∃ y, nm l n 4 = y := ⟨_, rfl⟩
                obtain ⟨c, hc⟩ : ∃ y, nm l n 5 = y := ⟨_, rfl⟩
                rw [hy] at c0
                rw [hm] at c1
                rw [hd'] at c2
                rw [ha] at c3
                rw [hb] at c4
                rw [hc] at c5
                have EX := N.ext
                cases ho : okc y m d a b c
                · have HO := Lib.hid ho
                  clear ho
                  go_wp2_with (first | (go_at_call 20; (with_reducible refine (cvOf_no _ _ _ _ _ _ _ (hL.ext (by (repeat (first | with_reducible exact Ext.refl _ | with_reducible assumption | exact Ext.mk (by with_reducible assumption) | with_reducible refine Ext.alloc ?_ _ | with_reducible refine Ext.drewN ?_ _ | with_reducible refine Ext.drew ?_ | with_reducible refine Ext.setCell ?_ (by first | (simp; done) | assumption | (simp; omega)) _ | (with_reducible refine Ext.trans ?_ (by with_reducible assumption)))))) HO.out).mono ?_); rintro e w5 ⟨rfl, E5⟩; have hc5 := E5.2.1; have hf5 := E5.2.2; have hz5 := E5.size; have ht5 := E5.sizes; (try simp [Nat.add_one_le_iff] at hz5); (try have hy5 := Nat.le_of_lt hz5); have F5 : Ext (xr.alloc (.cells #[.int .i64 y, .int .i64 m, .int .i64 d, .int .i64 a, .int .i64 b, .int .i64 c] 37)) w5 := (by (repeat (first | with_reducible exact Ext.refl _ | with_reducible assumption | exact Ext.mk (by with_reducible assumption) | with_reducible refine Ext.alloc ?_ _ | with_reducible refine Ext.drewN ?_ _ | with_reducible refine Ext.drew ?_ | with_reducible refine Ext.setCell ?_ (by first | (simp; done) | assumption | (simp; omega)) _ | (with_reducible refine Ext.trans ?_ (by with_reducible assumption))))); have kc5 := F5.2.1; have kf5 := F5.2.2; have kz5 := F5.size; have kt5 := F5.sizes; (try simp [Nat.add_one_le_iff] at kz5); (try have ky5 := Nat.le_of_lt kz5)) | (go_at_call 16; (with_reducible refine (at_zero _).mono ?_); rintro e w6 ⟨rfl, E6⟩; have hc6 := E6.2.1; have hf6 := E6.2.2; have hz6 := E6.size; have ht6 := E6.sizes; (try simp [Nat.add_one_le_iff] at hz6); (try have hy6 := Nat.le_of_lt hz6); have F6 : Ext (xr.alloc (.cells #[.int .i64 y, .int .i64 m, .int .i64 d, .int .i64 a, .int .i64 b, .int .i64 c] 37)) w6 := (by (repeat (first | with_reducible exact Ext.refl _ | with_reducible assumption | exact Ext.mk (by with_reducible assumption) | with_reducible refine Ext.alloc ?_ _ | with_reducible refine Ext.drewN ?_ _ | with_reducible refine Ext.drew ?_ | with_reducible refine Ext.setCell ?_ (by first | (simp; done) | assumption | (simp; omega)) _ | (with_reducible refine Ext.trans ?_ (by with_reducible assumption))))); have kc6 := F6.2.1; have kf6 := F6.2.2; have kz6 := F6.size; have kt6 := F6.sizes; (try simp [Nat.add_one_le_iff] at kz6); (try have ky6 := Nat.le_of_lt kz6)))
                  rw [Exit.noGoto_ret]
                  go_ret2
                  refine ⟨?_, by (repeat (first | with_reducible exact Ext.refl _ | with_reducible assumption | exact Ext.mk (by with_reducible assumption) | with_reducible refine Ext.alloc ?_ _ | with_reducible refine Ext.drewN ?_ _ | with_reducible refine Ext.drew ?_ | with_reducible refine Ext.setCell ?_ (by first | (simp; done) | assumption | (simp; omega)) _ | (with_reducible refine Ext.trans ?_ (by with_reducible assumption))))⟩
                  rw [if_neg (by rintro ⟨_, h2, _⟩; rw [HL.out, pat_bad19 bad h9] at h2; cases h2)]
                  rfl
                · have HO := Lib.hid ho
                  clear ho
                  go_wp2_with (first | (go_at_call 20; (with_reducible refine (cvOf_yes _ _ _ _ _ _ _ (hL.ext (by (repeat (first | with_reducible exact Ext.refl _ | with_reducible assumption | exact Ext.mk (by with_reducible assumption) | with_reducible refine Ext.alloc ?_ _ | with_reducible refine Ext.drewN ?_ _ | with_reducible refine Ext.drew ?_ | with_reducible refine Ext.setCell ?_ (by first | (simp; done) | assumption | (simp; omega)) _ | (with_reducible refine Ext.trans ?_ (by with_reducible assumption)))))) HO.out).mono ?_); rintro e w5 ⟨rfl, E5⟩; have hc5 := E5.2.1; have hf5 := E5.2.2; have hz5 := E5.size; have ht5 := E5.sizes; (try simp [Nat.add_one_le_iff] at hz5); (try have hy5 := Nat.le_of_lt hz5); have F5 : Ext (xr.alloc (.cells #[.int .i64 y, .int .i64 m, .int .i64 d, .int .i64 a, .int .i64 b, .int .i64 c] 37)) w5 := (by (repeat (first | with_reducible exact Ext.refl _ | with_reducible assumption | exact Ext.mk (by with_reducible assumption) | with_reducible refine Ext.alloc ?_ _ | with_reducible refine Ext.drewN ?_ _ | with_reducible refine Ext.drew ?_ | with_reducible refine Ext.setCell ?_ (by first | (simp; done) | assumption | (simp; omega)) _ | (with_reducible refine Ext.trans ?_ (by with_reducible assumption))))); have kc5 := F5.2.1; have kf5 := F5.2.2; have kz5 := F5.size; have kt5 := F5.sizes; (try simp [Nat.add_one_le_iff] at kz5); (try have ky5 := Nat.le_of_lt kz5)) | (go_at_call 16; (with_reducible refine (at_tim HO.out _).mono ?_); rintro e w6 ⟨rfl, E6⟩; have hc6 := E6.2.1; have hf6 := E6.2.2; have hz6 := E6.size; have ht6 := E6.sizes; (try simp [Nat.add_one_le_iff] at hz6); (try have hy6 := Nat.le_of_lt hz6); have F6 : Ext (xr.alloc (.cells #[.int .i64 y, .int .i64 m, .int .i64 d, .int .i64 a, .int .i64 b, .int .i64 c] 37)) w6 := (by (repeat (first | with_reducible exact Ext.refl _ | with_reducible assumption | exact Ext.mk (by with_reducible assumption) | with_reducible refine Ext.alloc ?_ _ | with_reducible refine Ext.drewN ?_ _ | with_reducible refine Ext.drew ?_ | with_reducible refine Ext.setCell ?_ (by first | (simp; done) | assumption | (simp; omega)) _ | (with_reducible refine Ext.trans ?_ (by with_reducible assumption))))); have kc6 := F6.2.1; have kf6 := F6.2.2; have kz6 := F6.size; have kt6 := F6.sizes; (try simp [Nat.add_one_le_iff] at kz6); (try have ky6 := Nat.le_of_lt kz6)))
                  rw [Exit.noGoto_ret]
                  go_ret2
                  refine ⟨?_, by (repeat (first | with_reducible exact Ext.refl _ | with_reducible assumption | exact Ext.mk (by with_reducible assumption) | with_reducible refine Ext.alloc ?_ _ | with_reducible refine Ext.drewN ?_ _ | with_reducible refine Ext.drew ?_ | with_reducible refine Ext.setCell ?_ (by first | (simp; done) | assumption | (simp; omega)) _ | (with_reducible refine Ext.trans ?_ (by with_reducible assumption))))⟩
                  rw [if_neg (by rintro ⟨_, h2, _⟩; rw [HL.out, pat_bad19 bad h9] at h2; cases h2)]
                  rfl
      · obtain rfl : n = 19 := by omega
        have HL := Lib.hid hl
        have PP := Lib.hid P
        clear hl P
        go_upto_region 12 with fail
        refine wp_forget (fun x => Nums w B l 19 x ∧ B < x.heap.size) ⟨N, hx⟩ ?_
        clear N hx
        rintro xr ⟨N, hx⟩
        have c0 := N.cell 0 (by omega)
        have c1 := N.cell 1 (by omega)
        have c2 := N.cell 2 (by omega)
        have c3 := N.cell 3 (by omega)
        have c4 := N.cell 4 (by omega)
        have c5 := N.cell 5 (by omega)
        obtain ⟨y, hy⟩ : ∃ y, nm l 19 0 = y := ⟨_, rfl⟩
        obtain ⟨m, hm⟩ : ∃ y, nm l 19 1 = y := ⟨_, rfl⟩
        obtain ⟨d, hd'⟩ : ∃ y, nm l 19 2 = y := ⟨_, rfl⟩
        obtain ⟨a, ha⟩ : ∃ y, nm l 19 3 = y := ⟨_, rfl⟩
        obtain ⟨b, hb⟩ : ∃ y, nm l 19 4 = y := ⟨_, rfl⟩
        obtain ⟨c, hc⟩ : ∃ y, nm l 19 5 = y := ⟨_, rfl⟩
        rw [hy] at c0
        rw [hm] at c1
        rw [hd'] at c2
        rw [ha] at c3
        rw [hb] at c4
        rw [hc] at c5
        have EX := N.ext
        cases ho : okc y m d a b c
        · have HO := Lib.hid ho
          clear ho
          go_wp2_with (first | (go_at_call 20; (with_reducible refine (cvOf_no _ _ _ _ _ _ _ (hL.ext (by (repeat (first | with_reducible exact Ext.refl _ | with_reducible assumption | exact Ext.mk (by with_reducible assumption) | with_reducible refine Ext.alloc ?_ _ | with_reducible refine Ext.drewN ?_ _ | with_reducible refine Ext.drew ?_ | with_reducible refine Ext.setCell ?_ (by first | (simp; done) | assumption | (simp; omega)) _ | (with_reducible refine Ext.trans ?_ (by with_reducible assumption)))))) HO.out).mono ?_); rintro e w5 ⟨rfl, E5⟩; have hc5 := E5.2.1; have hf5 := E5.2.2; have hz5 := E5.size; have ht5 := E5.sizes; (try simp [Nat.add_one_le_iff] at hz5); (try have hy5 := Nat.le_of_lt hz5); have F5 : Ext (xr.alloc (.cells #[.int .i64 y, .int .i64 m, .int .i64 d, .int .i64 a, .int .i64 b, .int .i64 c] 37)) w5 := (by (repeat (first | with_reducible exact Ext.refl _ | with_reducible assumption | exact Ext.mk (by with_reducible assumption) | with_reducible refine Ext.alloc ?_ _ | with_reducible refine Ext.drewN ?_ _ | with_reducible refine Ext.drew ?_ | with_reducible refine Ext.setCell ?_ (by first | (simp; done) | assumption | (simp; omega)) _ | (with_reducible refine Ext.trans ?_ (by with_reducible assumption))))); have kc5 := F5.2.1; have kf5 := F5.2.2; have kz5 := F5.size; have kt5 := F5.sizes; (try simp [Nat.add_one_le_iff] at kz5); (try have ky5 := Nat.le_of_lt kz5)) | (go_at_call 16; (with_reducible refine (at_zero _).mono ?_); rintro e w6 ⟨rfl, E6⟩; have hc6 := E6.2.1; have hf6 := E6.2.2; have hz6 := E6.size; have ht6 := E6.sizes; (try simp [Nat.add_one_le_iff] at hz6); (try have hy6 := Nat.le_of_lt hz6); have F6 : Ext (xr.alloc (.cells #[.int .i64 y, .int .i64 m, .int .i64 d, .int .i64 a, .int .i64 b, .int .i64 c] 37)) w6 := (by (repeat (first | with_reducible exact Ext.refl _ | with_reducible assumption | exact Ext.mk (by with_reducible assumption) | with_reducible refine Ext.alloc ?_ _ | with_reducible refine Ext.drewN ?_ _ | with_reducible refine Ext.drew ?_ | with_reducible refine Ext.setCell ?_ (by first | (simp; done) | assumption | (simp; omega)) _ | (with_reducible refine Ext.trans ?_ (by with_reducible assumption))))); have kc6 := F6.2.1; have kf6 := F6.2.2; have kz6 := F6.size; have kt6 := F6.sizes; (try simp [Nat.add_one_le_iff] at kz6); (try have ky6 := Nat.le_of_lt kz6)))
          rw [Exit.noGoto_ret]
          go_ret2
          refine ⟨?_, by (repeat (first | with_reducible exact Ext.refl _ | with_reducible assumption | exact Ext.mk (by with_reducible assumption) | with_reducible refine Ext.alloc ?_ _ | with_reducible refine Ext.drewN ?_ _ | with_reducible refine Ext.drew ?_ | with_reducible refine Ext.setCell ?_ (by first | (simp; done) | assumption | (simp; omega)) _ | (with_reducible refine Ext.trans ?_ (by with_reducible assumption))))⟩
          rw [if_neg (by rintro ⟨_, _, h3⟩; rw [HL.out, hy, hm, hd', ha, hb, hc, HO.out] at h3; cases h3)]
          rfl
        · have HO := Lib.hid ho
          clear ho
          go_wp2_with (first | (go_at_call 20; (with_reducible refine (cvOf_yes _ _ _ _ _ _ _ (hL.ext (by (repeat (first | with_reducible exact Ext.refl _ | with_reducible assumption | exact Ext.mk (by with_reducible assumption) | with_reducible refine Ext.alloc ?_ _ | with_reducible refine Ext.drewN ?_ _ | with_reducible refine Ext.drew ?_ | with_reducible refine Ext.setCell ?_ (by first | (simp; done) | assumption | (simp; omega)) _ | (with_reducible refine Ext.trans ?_ (by with_reducible assumption)))))) HO.out).mono ?_); rintro e w5 ⟨rfl, E5⟩; have hc5 := E5.2.1; have hf5 := E5.2.2; have hz5 := E5.size; have ht5 := E5.sizes; (try simp [Nat.add_one_le_iff] at hz5); (try have hy5 := Nat.le_of_lt hz5); have F5 : Ext (xr.alloc (.cells #[.int .i64 y, .int .i64 m, .int .i64 d, .int .i64 a, .int .i64 b, .int .i64 c] 37)) w5 := (by (repeat (first | with_reducible exact Ext.refl _ | with_reducible assumption | exact Ext.mk (by with_reducible assumption) | with_reducible refine Ext.alloc ?_ _ | with_reducible refine Ext.drewN ?_ _ | with_reducible refine Ext.drew ?_ | with_reducible refine Ext.setCell ?_ (by first | (simp; done) | assumption | (simp; omega)) _ | (with_reducible refine Ext.trans ?_ (by with_reducible assumption))))); have kc5 := F5.2.1; have kf5 := F5.2.2; have kz5 := F5.size; have kt5 := F5.sizes; (try simp [Nat.add_one_le_iff] at kz5); (try have ky5 := Nat.le_of_lt kz5)) | (go_at_call 16; (with_reducible refine (at_tim HO.out _).mono ?_); rintro e w6 ⟨rfl, E6⟩; have hc6 := E6.2.1; have hf6 := E6.2.2; have hz6 := E6.size; have ht6 := E6.sizes; (try simp [Nat.add_one_le_iff] at hz6); (try have hy6 := Nat.le_of_lt hz6); have F6 : Ext (xr.alloc (.cells #[.int .i64 y, .int .i64 m, .int .i64 d, .int .i64 a, .int .i64 b, .int .i64 c] 37)) w6 := (by (repeat (first | with_reducible exact Ext.refl _ | with_reducible assumption | exact Ext.mk (by with_reducible assumption) | with_reducible refine Ext.alloc ?_ _ | with_reducible refine Ext.drewN ?_ _ | with_reducible refine Ext.drew ?_ | with_reducible refine Ext.setCell ?_ (by first | (simp; done) | assumption | (simp; omega)) _ | (with_reducible refine Ext.trans ?_ (by with_reducible assumption))))); have kc6 := F6.2.1; have kf6 := F6.2.2; have kz6 := F6.size; have kt6 := F6.sizes; (try simp [Nat.add_one_le_iff] at kz6); (try have ky6 := Nat.le_of_lt kz6)))
          rw [Exit.noGoto_ret]
          go_ret2
          refine ⟨?_, by (repeat (first | with_reducible exact Ext.refl _ | with_reducible assumption | exact Ext.mk (by with_reducible assumption) | with_reducible refine Ext.alloc ?_ _ | with_reducible refine Ext.drewN ?_ _ | with_reducible refine Ext.drew ?_ | with_reducible refine Ext.setCell ?_ (by first | (simp; done) | assumption | (simp; omega)) _ | (with_reducible refine Ext.trans ?_ (by with_reducible assumption))))⟩
          rw [if_pos ⟨h19, by rw [HL.out]; exact PP.out, by rw [HL.out, hy, hm, hd', ha, hb, hc]; exact HO.out⟩]
          rw [HL.out, hy, hm, hd', ha, hb, hc]
          rfl
  · refine (parse_short s w hL hs h19).mono ?_
    rintro e w' ⟨rfl, E⟩
    rw [if_neg (fun h => h19 h.1)]
    exact ⟨rfl, E⟩
end Go.Proofs.YtkhmkenankdakabDoor
