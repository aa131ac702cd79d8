import Derived.Test.YtjdpkihlgpojkaaGreatDoorBl
import Derived.Lib.ItoaNum
import Derived.Lib.Join
import Derived.Test.YtjdpkihlgpojkaaGreatDoorFub
/- Functions that call themselves: the outermost call is taken by its body, those within by what is known of them. -/
namespace Go.B
open Go
set_option linter.unusedVariables false
set_option linter.unusedSimpArgs false
set_option linter.unusedSectionVars false

/-- a call, by its body -/
def bodyG (c : Cx) (ok : FuncId → Nat → Nat → Bool) (lp : Nat → FuncId → Nat → Nat → Lp) (n : Nat) (f : FuncId) (fn : Func) (args : List V) (hp : List Blk) (K : V → List Blk → Prop) : Prop := match fn.body with
  | some code => acode c f (acall c ok lp n) (ok f) (lp n f) none code (retK c hp.length fn K) ⟨number 0 args, hp, []⟩
  | none => False
section
variable {P : Program} {c : Cx} (hT : TyOk P c) (hE : EqOk P c) (hF : FnsOk P c) (hm : P.follows .mixedOrders = true)
include hT hE hF hm

theorem full_ent {c' : Cx} (hgs : c'.gs = c.gs) {f : FuncId} {fn : Func} (ok : FuncId → Nat → Nat → Bool) (lp : Nat → FuncId → Nat → Nat → Lp) (hL : LpOk c ok lp) (n : Nat)
    (hf : P.funcs[f]? = some fn) (hname : (fn.name == "runtime.NumGoroutine") = false) (hok : (match fn.body with | some cd => okC fn.ntmps cd | none => true) = true) (hb0 : fn.body.isSome = true) : EntOk P c' f (.full (bodyG c ok lp n f fn)) := by
  have ih := acall_sound hT hE hF hm ok lp hL n
  obtain ⟨code, hb⟩ := Option.isSome_iff_exists.mp hb0
  refine ⟨?_, ?_⟩
  · intro args w
    have h1 : fn.name ≠ "runtime.NumGoroutine" := by simpa using hname
    simp [callFunc, hf, h1, hb, mark]
  · intro args' hp K h ρ w us' R hall
    rw [hgs] at R ⊢
    unfold bodyG at h
    rw [hb] at h hok
    refine callsIn_of_wp_marks hf hb trivial ?_
    have hsz : (us'.toArray ++ Array.replicate (fn.ntmps - us'.toArray.size) undef).size ≥ fn.ntmps := by simp; omega
    have key := acode_sound hT hE hF hm ih f (ok f) (lp n f) (hL n f) code none none (retK c hp.length fn K) ⟨number 0 args', hp, []⟩ { tmps := us'.toArray ++ Array.replicate (fn.ntmps - us'.toArray.size) undef, defers := [] } w ρ h
      (okC_mono hsz code hok) R (TR.args hall _) rfl (Nat.le_refl _) trivial
    refine wpIn_mono key ?_
    rintro e a' w' ⟨q, s', ρ', rfl, k1, k2, k3, k4, k5, k6⟩
    have fin : shutK (resultsOf c ⟨s'.ts, deadAll s'.marks s'.hp, []⟩ fn.results.toList fun vs => leave hp.length (deadAll s'.marks s'.hp) (tupOf vs) K) s'.hp s'.marks →
        LeavesInM Fence.wide 0 P fn a'.tmps (CP c.gs K ρ w) a'.defers .returning w' := by
      intro j
      obtain ⟨j1, j2⟩ := shutK_of j
      refine leaves_sound (fun r o hr => some_lt (R.im r o hr).1) a'.defers s'.marks s'.hp ρ' w' k4 j1 k2 k6 ?_
      intro w2 ρ2 L2 R2 G2
      obtain ⟨vs, u, l1, l2, l3⟩ := results_sound hT (fn := fn) (s := ⟨s'.ts, deadAll s'.marks s'.hp, []⟩) R2 (k3.monoC L2) _ j2
      exact ⟨u, l3, leave_sound l1 R.len l2 R2 G2⟩
    cases q with
    | normal => exact fin k1
    | ret => exact fin k1
    | exit i => exact k1.elim
end
end Go.B
/- Contracts of Go's library, and of both uppers, as entries of the reading. -/
namespace Go.Proofs.YtjdpkihlgpojkaaGreatDoor
open Go Go.B Go.RowKit
set_option linter.unusedVariables false
set_option linter.unusedSimpArgs false
set_option linter.unusedSectionVars false

theorem below_drewN (w : World) : ∀ n, Below w.heap.size w (w.drewN n) := fun n => ⟨rfl, rfl, rfl, Nat.le_refl _, fun _ _ => rfl⟩

theorem out_str {M : Nat → Option Obj} {N : Nat} {w : World} {s : ByteArray} : Out M N w (.str s) (.string s) [] [] := by
  simp only [Out, D]; exact ⟨trivial, trivial⟩

/-- a text comes out, and nothing else turns -/
theorem res_str {A : RT} {M : Nat → Option Obj} {w w' : World} {s : ByteArray} (hM : ∀ r o, M r = some o → w.heap[r]? = some o) (hb : Below w.heap.size w w') : Result' A .str M w s (.returned (.string s)) w' := by
  refine ⟨_, M, [], rfl, out_str, hb, fun _ _ h => h, fun r o h => ⟨?_, .inl h⟩⟩
  have := hM r o h
  have hlt : r < w.heap.size := (Array.getElem?_eq_some_iff.mp this).1
  rw [hb.block r hlt]; exact this

theorem ds_str2 {ρ : Env} {s t : ByteArray} {us : List Value} (h : Ds ρ [.str s, .str t] us) : us = [.string s, .string t] := by
  simp only [Ds, D] at h
  obtain ⟨u, us', rfl, rfl, u2, us2, rfl, rfl, rfl⟩ := h
  rfl

theorem ds_str1 {ρ : Env} {s : ByteArray} {us : List Value} (h : Ds ρ [.str s] us) : us = [.string s] := by
  simp only [Ds, D] at h
  obtain ⟨u, us', rfl, rfl, rfl⟩ := h
  rfl

def field_upper_R (s y : ByteArray) : Prop := s.size ≤ 1000000 ∧ y = ⟨(upS s).toArray⟩

theorem field_upper_ok {gs : List (Nat × CF)} : FxOk Tryz.prog gs 123 (.one .str) .str field_upper_R := by
  refine ⟨enters Tryz.func123 (by kernel_rfl) rfl, fun y => ⟨_, rfl⟩, fun x y h M us w d hM hg => ?_⟩
  obtain ⟨h1, rfl⟩ := h
  rw [ds_str1 d]
  refine (upper_walk x w (by omega)).mono ?_
  rintro e w' ⟨rfl, hb⟩
  exact res_str hM hb

def curfewref06_upper_R (s y : ByteArray) : Prop := s.size ≤ 1000000 ∧ y = ⟨(s.data.toList.map upB).toArray⟩

theorem curfewref06_upper_ok {gs : List (Nat × CF)} : FxOk Tryz.prog gs 104 (.one .str) .str curfewref06_upper_R := by
  refine ⟨enters Tryz.func104 (by kernel_rfl) rfl, fun y => ⟨_, rfl⟩, fun x y h M us w d hM hg => ?_⟩
  obtain ⟨h1, rfl⟩ := h
  rw [ds_str1 d]
  refine (rupper_walk x w (by omega)).mono ?_
  rintro e w' ⟨rfl, hb⟩
  exact res_str hM hb

def strings_Cut_R (s sep : ByteArray) (y : ByteArray × ByteArray × Bool) : Prop := s.size ≤ 1000000 ∧ y = (⟨(Lib.cut s.data.toList sep.data.toList).1.toArray⟩, ⟨(Lib.cut s.data.toList sep.data.toList).2.1.toArray⟩, (Lib.cut s.data.toList sep.data.toList).2.2)

theorem strings_Cut_ok {gs : List (Nat × CF)} (hG : assoc 2 gs = some (.some .i64)) : FxOk Tryz.prog gs 38 (.cons .str (.one .str)) (.tup (.cons .str (.cons .str (.one .bool)))) fun x y => strings_Cut_R x.1 x.2 y := by
  refine ⟨enters Tryz.func38 (by kernel_rfl) rfl, fun y => ⟨_, rfl⟩, fun x y h M us w d hM hg => ?_⟩
  obtain ⟨h1, rfl⟩ := h
  rw [ds_str2 d]
  obtain ⟨m, hm⟩ := (hg _ _ hG).1.2
  refine (Tryz.strings_Cut x.1 x.2 m w (by omega) hm).mono ?_
  rintro e w' ⟨rfl, n, rfl⟩
  refine ⟨_, M, [], rfl, ?_, below_drewN w n, fun _ _ h => h, fun r o h => ⟨hM r o h, .inl h⟩⟩
  show Out M _ _ (.tup [.str _, .str _, .bool _]) _ [] []
  simp only [Out, Outs, D]
  exact ⟨_, rfl, _, _, _, rfl, ⟨rfl, rfl⟩, _, _, _, rfl, ⟨rfl, rfl⟩, _, _, _, rfl, ⟨rfl, rfl⟩, rfl, rfl⟩

def strings_Split_R (s sep : ByteArray) (y : List ByteArray) : Prop := (s.size ≤ 1000000 ∧ 1 ≤ sep.size) ∧ y = Lib.splitB sep 0 (Lib.countB s sep) s

theorem strings_Split_ok {gs : List (Nat × CF)} (hG : assoc 2 gs = some (.some .i64)) : FxOk Tryz.prog gs 40 (.cons .str (.one .str)) (.nw .str 9) fun x y => strings_Split_R x.1 x.2 y := by
  refine ⟨enters Tryz.func40 (by kernel_rfl) rfl, fun y => ⟨_, rfl⟩, fun x y h M us w d hM hg => ?_⟩
  obtain ⟨⟨h1, h2⟩, rfl⟩ := h
  rw [ds_str2 d]
  obtain ⟨m, hm⟩ := (hg _ _ hG).1.2
  obtain ⟨s, sep⟩ := x
  have hlen : (Lib.splitB sep 0 (Lib.countB s sep) s).length = Lib.countB s sep + 1 := Lib.splitB_all sep h2 0 _ s rfl
  have hle := Lib.countB_le sep h2 s.size s (Nat.le_refl _)
  have h1 : s.size ≤ 1000000 := h1
  refine (Tryz.strings_Split s sep m w (by omega) hm h2).mono ?_
  rintro e w' ⟨rfl, rfl⟩
  refine ⟨_, M, [w.heap.size], rfl, ?_, Below.alloc (Below.refl _ _) (Nat.le_refl _) _, fun _ _ h => h, fun r o h => ⟨?_, .inl h⟩⟩
  · show Out M _ _ (.nw .str _ _) _ [] _
    simp only [Out]
    refine .inr ⟨w.heap.size, Lib.countB s sep + 1, ((Lib.splitB sep 0 (Lib.countB s sep) s).map Value.string).toArray, ⟨by omega, by omega⟩, by omega, by rw [hlen], Nat.le_refl _, by simp, ?_, ?_, ?_, ?_, rfl⟩
    · cases hMr : M w.heap.size with
      | none => rfl
      | some o => have := hM _ _ hMr; simp at this
    · show (w.heap.push _)[w.heap.size]? = _
      simp
    · simp [Ty.size, hlen]
    · intro i hi
      show _ = _
      simp [Ty.size, List.take_one]
      try rw [List.getElem?_eq_getElem hi]
      try rfl
  · have := hM r o h
    have hlt : r < w.heap.size := (Array.getElem?_eq_some_iff.mp this).1
    show (w.heap.push _)[r]? = _
    rw [Array.getElem?_push, if_neg (by omega)]; exact this

end Go.Proofs.YtjdpkihlgpojkaaGreatDoor/- Contracts of Go's library for texts of crons. -/
namespace Go.Proofs.YtjdpkihlgpojkaaGreatDoor
open Go Go.B Go.RowKit
set_option linter.unusedVariables false
set_option linter.unusedSimpArgs false
set_option linter.unusedSectionVars false

def never_R {α β : Type} (_ : α) (_ : β) : Prop := False

/-- at one sign below 128 -/
def strings_TrimLeft_R (s cut y : ByteArray) : Prop := (∃ c : UInt8, c.toNat < 128 ∧ cut = ⟨#[c]⟩ ∧ y = ⟨(Lib.trimLeftB s.data.toList c).toArray⟩)

theorem strings_TrimLeft_ok {gs : List (Nat × CF)} : FxOk Tryz.prog gs 37 (.cons .str (.one .str)) .str fun x y => strings_TrimLeft_R x.1 x.2 y := by
  refine ⟨enters Tryz.func37 (by kernel_rfl) rfl, fun y => ⟨_, rfl⟩, fun x y h M us w d hM hg => ?_⟩
  obtain ⟨s, cut⟩ := x
  obtain ⟨c, hc, hcut, rfl⟩ := h
  have hcut : cut = ⟨#[c]⟩ := hcut
  subst hcut
  rw [ds_str2 d]
  refine (Tryz.strings_TrimLeft_one s c hc w).mono ?_
  rintro e w' ⟨rfl, rfl⟩
  exact res_str hM (Below.refl _ _)
end Go.Proofs.YtjdpkihlgpojkaaGreatDoor
