/- Contracts of Go's library, and of field.upper, as plain functions. -/
import Derived.Test.YtbammhmbapeboaaGreatDoorFua
import Derived.Test.YtbammhmbapeboaaGreatDoorBn
namespace Go.Proofs.YtbammhmbapeboaaGreatDoor
open Go Go.B Go.RowKit
set_option linter.unusedVariables false
set_option linter.unusedSimpArgs false
set_option linter.unusedSectionVars false

theorem below_drewN (w : World) : ∀ n, Below w.heap.size w (w.drewN n) := fun n => ⟨rfl, rfl, rfl, Nat.le_refl _, fun _ _ => rfl⟩

theorem out_str {M : Nat → Option Obj} {N : Nat} {w : World} {s : ByteArray} : Out M N w (.str s) (.string s) [] [] := by
  simp only [Out, D]; exact ⟨trivial, trivial⟩

/-- a text comes out, and nothing else turns -/
theorem res_str {A : RT} {M : Nat → Option Obj} {w w' : World} {s : ByteArray} (hM : ∀ r o, M r = some o → w.heap[r]? = some o) (hb : Below w.heap.size w w') : Result' A .str M w s (.returned (.string s)) w' := by
  refine ⟨_, M, [], rfl, out_str, hb, fun _ _ h => h, fun r o h => ⟨?_, .inl h⟩⟩
  have := hM r o h
  have hlt : r < w.heap.size := (Array.getElem?_eq_some_iff.mp this).1
  rw [hb.block r hlt]; exact this

theorem ds_str2 {ρ : Env} {s t : ByteArray} {us : List Value} (h : Ds ρ [.str s, .str t] us) : us = [.string s, .string t] := by
  simp only [Ds, D] at h
  obtain ⟨u, us', rfl, rfl, u2, us2, rfl, rfl, rfl⟩ := h
  rfl

theorem ds_str1 {ρ : Env} {s : ByteArray} {us : List Value} (h : Ds ρ [.str s] us) : us = [.string s] := by
  simp only [Ds, D] at h
  obtain ⟨u, us', rfl, rfl, rfl⟩ := h
  rfl

def field_upper_R (s y : ByteArray) : Prop := s.size ≤ 1000000 ∧ y = ⟨(upS s).toArray⟩

theorem field_upper_ok {gs : List (Nat × CF)} : FxOk Tryz.prog gs 325 (.one .str) .str field_upper_R := by
  refine ⟨enters Tryz.func325 (by kernel_rfl) rfl, fun y => ⟨_, rfl⟩, fun x y h M us w d hM hg => ?_⟩
  obtain ⟨h1, rfl⟩ := h
  rw [ds_str1 d]
  refine (upper_walk x w (by omega)).mono ?_
  rintro e w' ⟨rfl, hb⟩
  exact res_str hM hb

def strings_Cut_R (s sep : ByteArray) (y : ByteArray × ByteArray × Bool) : Prop := s.size ≤ 1000000 ∧ y = (⟨(Lib.cut s.data.toList sep.data.toList).1.toArray⟩, ⟨(Lib.cut s.data.toList sep.data.toList).2.1.toArray⟩, (Lib.cut s.data.toList sep.data.toList).2.2)

theorem strings_Cut_ok {gs : List (Nat × CF)} (hG : assoc 3 gs = some (.some .i64)) : FxOk Tryz.prog gs 245 (.cons .str (.one .str)) (.tup (.cons .str (.cons .str (.one .bool)))) fun x y => strings_Cut_R x.1 x.2 y := by
  refine ⟨enters Tryz.func245 (by kernel_rfl) rfl, fun y => ⟨_, rfl⟩, fun x y h M us w d hM hg => ?_⟩
  obtain ⟨h1, rfl⟩ := h
  rw [ds_str2 d]
  obtain ⟨m, hm⟩ := (hg _ _ hG).1.2
  refine (Tryz.strings_Cut x.1 x.2 m w (by omega) hm).mono ?_
  rintro e w' ⟨rfl, n, rfl⟩
  refine ⟨_, M, [], rfl, ?_, below_drewN w n, fun _ _ h => h, fun r o h => ⟨hM r o h, .inl h⟩⟩
  show Out M _ _ (.tup [.str _, .str _, .bool _]) _ [] []
  simp only [Out, Outs, D]
  exact ⟨_, rfl, _, _, _, rfl, ⟨rfl, rfl⟩, _, _, _, rfl, ⟨rfl, rfl⟩, _, _, _, rfl, ⟨rfl, rfl⟩, rfl, rfl⟩

def strings_Split_R (s sep : ByteArray) (y : List ByteArray) : Prop := (s.size ≤ 1000000 ∧ 1 ≤ sep.size) ∧ y = Lib.splitB sep 0 (Lib.countB s sep) s

theorem strings_Split_ok {gs : List (Nat × CF)} (hG : assoc 3 gs = some (.some .i64)) : FxOk Tryz.prog gs 246 (.cons .str (.one .str)) (.nw .str 9) fun x y => strings_Split_R x.1 x.2 y := by
  refine ⟨enters Tryz.func246 (by kernel_rfl) rfl, fun y => ⟨_, rfl⟩, fun x y h M us w d hM hg => ?_⟩
  obtain ⟨⟨h1, h2⟩, rfl⟩ := h
  rw [ds_str2 d]
  obtain ⟨m, hm⟩ := (hg _ _ hG).1.2
  obtain ⟨s, sep⟩ := x
  have hlen : (Lib.splitB sep 0 (Lib.countB s sep) s).length = Lib.countB s sep + 1 := Lib.splitB_all sep h2 0 _ s rfl
  have hle := Lib.countB_le sep h2 s.size s (Nat.le_refl _)
  have h1 : s.size ≤ 1000000 := h1
  refine (Tryz.strings_Split s sep m w (by omega) hm h2).mono ?_
  rintro e w' ⟨rfl, rfl⟩
  refine ⟨_, M, [w.heap.size], rfl, ?_, Below.alloc (Below.refl _ _) (Nat.le_refl _) _, fun _ _ h => h, fun r o h => ⟨?_, .inl h⟩⟩
  · show Out M _ _ (.nw .str _ _) _ [] _
    simp only [Out]
    refine .inr ⟨w.heap.size, Lib.countB s sep + 1, ((Lib.splitB sep 0 (Lib.countB s sep) s).map Value.string).toArray, ⟨by omega, by omega⟩, by omega, by rw [hlen], Nat.le_refl _, by simp, ?_, ?_, ?_, ?_, rfl⟩
    · cases hMr : M w.heap.size with
      | none => rfl
      | some o => have := hM _ _ hMr; simp at this
    · show (w.heap.push _)[w.heap.size]? = _
      simp
    · simp [Ty.size, hlen]
    · intro i hi
      show _ = _
      simp [Ty.size, List.take_one]
      try rw [List.getElem?_eq_getElem hi]
      try rfl
  · have := hM r o h
    have hlt : r < w.heap.size := (Array.getElem?_eq_some_iff.mp this).1
    show (w.heap.push _)[r]? = _
    rw [Array.getElem?_push, if_neg (by omega)]; exact this

/-- at one sign below 128 -/
def strings_TrimLeft_R (s cut y : ByteArray) : Prop := (∃ c : UInt8, c.toNat < 128 ∧ cut = ⟨#[c]⟩ ∧ y = ⟨(Lib.trimLeftB s.data.toList c).toArray⟩)

theorem strings_TrimLeft_ok {gs : List (Nat × CF)} : FxOk Tryz.prog gs 244 (.cons .str (.one .str)) .str fun x y => strings_TrimLeft_R x.1 x.2 y := by
  refine ⟨enters Tryz.func244 (by kernel_rfl) rfl, fun y => ⟨_, rfl⟩, fun x y h M us w d hM hg => ?_⟩
  obtain ⟨s, cut⟩ := x
  obtain ⟨c, hc, hcut, rfl⟩ := h
  have hcut : cut = ⟨#[c]⟩ := hcut
  subst hcut
  rw [ds_str2 d]
  refine (Tryz.strings_TrimLeft_one s c hc w).mono ?_
  rintro e w' ⟨rfl, rfl⟩
  exact res_str hM (Below.refl _ _)

def libUpper : Nat × Ent := (325, .fn (.one .str) .str (fun x => (⟨(upS x).toArray⟩ : ByteArray)) (fun x => decide ((x : ByteArray).size ≤ 1000000)))

theorem libUpper_ok {gs : List (Nat × CF)} : FxOk Tryz.prog gs 325 (.one .str) .str fun x y => decide ((x : ByteArray).size ≤ 1000000) = true ∧ y = (⟨(upS x).toArray⟩ : ByteArray) :=
  field_upper_ok.to fun x y h => ⟨of_decide_eq_true h.1, h.2⟩

def libCut : Nat × Ent := (245, .fn (.cons .str (.one .str)) (.tup (.cons .str (.cons .str (.one .bool)))) (fun x => ((⟨(Lib.cut x.1.data.toList x.2.data.toList).1.toArray⟩ : ByteArray), (⟨(Lib.cut x.1.data.toList x.2.data.toList).2.1.toArray⟩ : ByteArray), (Lib.cut x.1.data.toList x.2.data.toList).2.2)) (fun x => decide (x.1.size ≤ 1000000)))

theorem libCut_ok {gs : List (Nat × CF)} (hG : assoc 3 gs = some (.some .i64)) : FxOk Tryz.prog gs 245 (.cons .str (.one .str)) (.tup (.cons .str (.cons .str (.one .bool)))) fun x y => decide (x.1.size ≤ 1000000) = true ∧ y = ((⟨(Lib.cut x.1.data.toList x.2.data.toList).1.toArray⟩ : ByteArray), (⟨(Lib.cut x.1.data.toList x.2.data.toList).2.1.toArray⟩ : ByteArray), (Lib.cut x.1.data.toList x.2.data.toList).2.2) :=
  (strings_Cut_ok hG).to fun x y h => ⟨of_decide_eq_true h.1, h.2⟩

def libSplit : Nat × Ent := (246, .fn (.cons .str (.one .str)) (.nw .str 9) (fun x => Lib.splitB x.2 0 (Lib.countB x.1 x.2) x.1) (fun x => decide (x.1.size ≤ 1000000) && decide (1 ≤ x.2.size)))

theorem libSplit_ok {gs : List (Nat × CF)} (hG : assoc 3 gs = some (.some .i64)) : FxOk Tryz.prog gs 246 (.cons .str (.one .str)) (.nw .str 9) fun x y => (decide (x.1.size ≤ 1000000) && decide (1 ≤ x.2.size)) = true ∧ y = Lib.splitB x.2 0 (Lib.countB x.1 x.2) x.1 :=
  (strings_Split_ok hG).to fun x y h => by
    have h1 := h.1
    rw [Bool.and_eq_true] at h1
    exact ⟨⟨of_decide_eq_true h1.1, of_decide_eq_true h1.2⟩, h.2⟩

def oneOf (s : ByteArray) : Bool := match s.data.toList with | [c] => decide (c.toNat < 128) | _ => false

def libTrim : Nat × Ent := (244, .fn (.cons .str (.one .str)) .str (fun x => (⟨(Lib.trimLeftB x.1.data.toList (x.2.data.toList.headD 0)).toArray⟩ : ByteArray)) (fun x => oneOf x.2))

theorem libTrim_ok {gs : List (Nat × CF)} : FxOk Tryz.prog gs 244 (.cons .str (.one .str)) .str fun x y => oneOf x.2 = true ∧ y = (⟨(Lib.trimLeftB x.1.data.toList (x.2.data.toList.headD 0)).toArray⟩ : ByteArray) :=
  strings_TrimLeft_ok.to fun x y h => by
    obtain ⟨⟨s⟩, ⟨⟨t⟩⟩⟩ := x
    obtain ⟨h1, h2⟩ := h
    simp only [oneOf] at h1
    match t, h1, h2 with
    | [c], h1, h2 => exact ⟨c, of_decide_eq_true h1, rfl, h2⟩
    | [], h1, _ => cases h1
    | _ :: _ :: _, h1, _ => cases h1
end Go.Proofs.YtbammhmbapeboaaGreatDoor
