/- Contracts of Go's library, and of both uppers, as entries of the reading. -/
import Derived.Test.YtcbgnicdcdfmiaaDoorFua
import Derived.Test.YtcbgnicdcdfmiaaDoorFub
import Derived.Test.YtcbgnicdcdfmiaaDoorBl
namespace Go.Proofs.YtcbgnicdcdfmiaaDoor
open Go Go.B Go.RowKit
set_option linter.unusedVariables false
set_option linter.unusedSimpArgs false
set_option linter.unusedSectionVars false

theorem below_drewN (w : World) : ∀ n, Below w.heap.size w (w.drewN n) := fun n => ⟨rfl, rfl, rfl, Nat.le_refl _, fun _ _ => rfl⟩

theorem out_str {M : Nat → Option Obj} {N : Nat} {w : World} {s : ByteArray} : Out M N w (.str s) (.string s) [] [] := by
  simp only [Out, D]; exact ⟨trivial, trivial⟩

/-- a text comes out, and nothing else turns -/
theorem res_str {A : RT} {M : Nat → Option Obj} {w w' : World} {s : ByteArray} (hM : ∀ r o, M r = some o → w.heap[r]? = some o) (hb : Below w.heap.size w w') : Result' A .str M w s (.returned (.string s)) w' := by
  refine ⟨_, M, [], rfl, out_str, hb, fun _ _ h => h, fun r o h => ⟨?_, .inl h⟩⟩
  have := hM r o h
  have hlt : r < w.heap.size := (Array.getElem?_eq_some_iff.mp this).1
  rw [hb.block r hlt]; exact this

theorem ds_str2 {ρ : Env} {s t : ByteArray} {us : List Value} (h : Ds ρ [.str s, .str t] us) : us = [.string s, .string t] := by
  simp only [Ds, D] at h
  obtain ⟨u, us', rfl, rfl, u2, us2, rfl, rfl, rfl⟩ := h
  rfl

theorem ds_str1 {ρ : Env} {s : ByteArray} {us : List Value} (h : Ds ρ [.str s] us) : us = [.string s] := by
  simp only [Ds, D] at h
  obtain ⟨u, us', rfl, rfl, rfl⟩ := h
  rfl

def field_upper_R (s y : ByteArray) : Prop := s.size ≤ 1000000 ∧ y = ⟨(upS s).toArray⟩

theorem field_upper_ok {gs : List (Nat × CF)} : FxOk Tryd.prog gs 49 (.one .str) .str field_upper_R := by
  refine ⟨enters Tryd.func49 (by kernel_rfl) rfl, fun y => ⟨_, rfl⟩, fun x y h M us w d hM hg => ?_⟩
  obtain ⟨h1, rfl⟩ := h
  rw [ds_str1 d]
  refine (upper_walk x w (by omega)).mono ?_
  rintro e w' ⟨rfl, hb⟩
  exact res_str hM hb

def curfewref06_upper_R (s y : ByteArray) : Prop := s.size ≤ 1000000 ∧ y = ⟨(s.data.toList.map upB).toArray⟩

theorem curfewref06_upper_ok {gs : List (Nat × CF)} : FxOk Tryd.prog gs 52 (.one .str) .str curfewref06_upper_R := by
  refine ⟨enters Tryd.func52 (by kernel_rfl) rfl, fun y => ⟨_, rfl⟩, fun x y h M us w d hM hg => ?_⟩
  obtain ⟨h1, rfl⟩ := h
  rw [ds_str1 d]
  refine (rupper_walk x w (by omega)).mono ?_
  rintro e w' ⟨rfl, hb⟩
  exact res_str hM hb

def strconv_Itoa_R (n : Int) (y : ByteArray) : Prop := (0 ≤ n ∧ n < 100) ∧ y = ⟨(Lib.decDigits n.toNat).toArray⟩

theorem strconv_Itoa_ok {gs : List (Nat × CF)} : FxOk Tryd.prog gs 26 (.one (.int .i64)) .str strconv_Itoa_R := by
  refine ⟨enters Tryd.func26 (by kernel_rfl) rfl, fun y => ⟨_, rfl⟩, fun x y h M us w d hM hg => ?_⟩
  obtain ⟨⟨h1, h2⟩, rfl⟩ := h
  have h1 : (0 : Int) ≤ x := h1
  obtain ⟨i, rfl⟩ : ∃ i : Nat, x = (i : Int) := ⟨x.toNat, (Int.toNat_of_nonneg h1).symm⟩
  have : us = [.int .i64 (i : Int)] := by
    have d : Ds ⟨[], M⟩ [.int .i64 (i : Int)] us := d
    simp only [Ds, D] at d
    obtain ⟨u, us', rfl, rfl, rfl⟩ := d
    rfl
  rw [this]
  have h2 : (i : Int) < 100 := h2
  refine (Tryd.strconv_Itoa_small i (by omega) w).mono ?_
  rintro e w' ⟨rfl, rfl⟩
  exact res_str hM (Below.refl _ _)

def strings_Cut_R (s sep : ByteArray) (y : ByteArray × ByteArray × Bool) : Prop := s.size ≤ 1000000 ∧ y = (⟨(Lib.cut s.data.toList sep.data.toList).1.toArray⟩, ⟨(Lib.cut s.data.toList sep.data.toList).2.1.toArray⟩, (Lib.cut s.data.toList sep.data.toList).2.2)

theorem strings_Cut_ok {gs : List (Nat × CF)} (hG : assoc 4 gs = some (.some .i64)) : FxOk Tryd.prog gs 31 (.cons .str (.one .str)) (.tup (.cons .str (.cons .str (.one .bool)))) fun x y => strings_Cut_R x.1 x.2 y := by
  refine ⟨enters Tryd.func31 (by kernel_rfl) rfl, fun y => ⟨_, rfl⟩, fun x y h M us w d hM hg => ?_⟩
  obtain ⟨h1, rfl⟩ := h
  rw [ds_str2 d]
  obtain ⟨m, hm⟩ := (hg _ _ hG).1.2
  refine (Tryd.strings_Cut x.1 x.2 m w (by omega) hm).mono ?_
  rintro e w' ⟨rfl, n, rfl⟩
  refine ⟨_, M, [], rfl, ?_, below_drewN w n, fun _ _ h => h, fun r o h => ⟨hM r o h, .inl h⟩⟩
  show Out M _ _ (.tup [.str _, .str _, .bool _]) _ [] []
  simp only [Out, Outs, D]
  exact ⟨_, rfl, _, _, _, rfl, ⟨rfl, rfl⟩, _, _, _, rfl, ⟨rfl, rfl⟩, _, _, _, rfl, ⟨rfl, rfl⟩, rfl, rfl⟩

def strings_Split_R (s sep : ByteArray) (y : List ByteArray) : Prop := (s.size ≤ 1000000 ∧ 1 ≤ sep.size) ∧ y = Lib.splitB sep 0 (Lib.countB s sep) s

theorem strings_Split_ok {gs : List (Nat × CF)} (hG : assoc 4 gs = some (.some .i64)) : FxOk Tryd.prog gs 30 (.cons .str (.one .str)) (.nw .str 9) fun x y => strings_Split_R x.1 x.2 y := by
  refine ⟨enters Tryd.func30 (by kernel_rfl) rfl, fun y => ⟨_, rfl⟩, fun x y h M us w d hM hg => ?_⟩
  obtain ⟨⟨h1, h2⟩, rfl⟩ := h
  rw [ds_str2 d]
  obtain ⟨m, hm⟩ := (hg _ _ hG).1.2
  obtain ⟨s, sep⟩ := x
  have hlen : (Lib.splitB sep 0 (Lib.countB s sep) s).length = Lib.countB s sep + 1 := Lib.splitB_all sep h2 0 _ s rfl
  have hle := Lib.countB_le sep h2 s.size s (Nat.le_refl _)
  have h1 : s.size ≤ 1000000 := h1
  refine (Tryd.strings_Split s sep m w (by omega) hm h2).mono ?_
  rintro e w' ⟨rfl, rfl⟩
  refine ⟨_, M, [w.heap.size], rfl, ?_, Below.alloc (Below.refl _ _) (Nat.le_refl _) _, fun _ _ h => h, fun r o h => ⟨?_, .inl h⟩⟩
  · show Out M _ _ (.nw .str _ _) _ [] _
    simp only [Out]
    refine .inr ⟨w.heap.size, Lib.countB s sep + 1, ((Lib.splitB sep 0 (Lib.countB s sep) s).map Value.string).toArray, ⟨by omega, by omega⟩, by omega, by rw [hlen], Nat.le_refl _, by simp, ?_, ?_, ?_, ?_, rfl⟩
    · cases hMr : M w.heap.size with
      | none => rfl
      | some o => have := hM _ _ hMr; simp at this
    · show (w.heap.push _)[w.heap.size]? = _
      simp
    · simp [Ty.size, hlen]
    · intro i hi
      show _ = _
      simp [Ty.size, List.take_one]
      try rw [List.getElem?_eq_getElem hi]
      try rfl
  · have := hM r o h
    have hlt : r < w.heap.size := (Array.getElem?_eq_some_iff.mp this).1
    show (w.heap.push _)[r]? = _
    rw [Array.getElem?_push, if_neg (by omega)]; exact this

def strings_Join_R (l : List ByteArray) (sep : ByteArray) (y : ByteArray) : Prop := (l.length ≤ 1000000 ∧ (Lib.join (l.map (·.data.toList)) sep.data.toList).length ≤ 100000000) ∧ y = ⟨(Lib.join (l.map (·.data.toList)) sep.data.toList).toArray⟩

theorem strings_Join_ok {gs : List (Nat × CF)} : FxOk Tryd.prog gs 38 (.cons (.sl .str) (.one .str)) .str fun x y => strings_Join_R x.1 x.2 y := by
  refine ⟨enters Tryd.func38 (by kernel_rfl) rfl, fun y => ⟨_, rfl⟩, fun x y h M us w d hM hg => ?_⟩
  obtain ⟨⟨h1, h2⟩, rfl⟩ := h
  obtain ⟨l, sep⟩ := x
  have d : Ds ⟨[], M⟩ [.sl .str l none, .str sep] us := d
  simp only [Ds, D] at d
  obtain ⟨u, us', rfl, ⟨a, cp, rfl, hcp, _, hbk⟩, u2, us2, rfl, rfl, rfl⟩ := d
  have h1 : l.length ≤ 1000000 := h1
  have h2 : (Lib.join (l.map (·.data.toList)) sep.data.toList).length ≤ 100000000 := h2
  show Calls _ _ #[.slice a l.length cp, .string sep] w _
  have hnil : l = [] → Calls Tryd.prog 38 #[.slice a l.length cp, .string sep] w (Result' (.cons (.sl .str) (.one .str)) .str M w (⟨(Lib.join (l.map (·.data.toList)) sep.data.toList).toArray⟩ : ByteArray)) := fun hn => by
    subst hn
    refine (Tryd.strings_Join_none a cp sep w).mono ?_
    rintro e w' ⟨rfl, rfl⟩
    exact res_str hM (Below.refl _ _)
  rcases hbk with hn | ⟨r, o, cs, T, fr, rfl, hr, he⟩
  · exact hnil hn
  · have hw := hM _ _ hr
    have hlt : r < w.heap.size := (Array.getElem?_eq_some_iff.mp hw).1
    refine (Tryd.strings_Join r o cp l sep w (fun j x hx => ?_) hlt (Nat.le_trans h1 (by decide)) hcp (Nat.le_trans h2 (by decide))).mono ?_
    · have hj : j < l.length := (List.getElem?_eq_some_iff.mp hx).1
      have e1 := he j hj
      have e1 : (cs.toList.drop (o + j * 1)).take 1 = [.string l[j]] := e1
      rw [List.getElem?_eq_getElem hj] at hx
      cases hx
      have e2 : cs[o + j]? = some (.string l[j]) := by
        have := congrArg (·[0]?) e1
        simpa using this
      unfold World.cell?
      simp only [hw]
      exact e2
    · rintro e w' ⟨rfl, hb⟩
      exact res_str hM hb
end Go.Proofs.YtcbgnicdcdfmiaaDoor
